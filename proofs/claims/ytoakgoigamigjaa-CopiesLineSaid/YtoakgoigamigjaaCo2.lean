/- The walk of reach, first part. -/
import Derived.Test.YtoakgoigamigjaaCoOp
set_option linter.unusedVariables false
set_option linter.unusedSimpArgs false
namespace Go.Proofs.Ytoakgoigamigjaa
open Go.RowKit

section
variable (g gl n : Nat) (s : CS) (A : Option Addr) (cap : Nat) (R : List LRow) (w0 w : World)
set_option maxRecDepth 100000 in
set_option maxHeartbeats 12800000 in
theorem reach1_any (i to now : Nat) (hn : n ≤ 6) (hi : i < 6) (hto : to < n) (hnow : now ≤ 100) (hrch : (s.cl i).rch < 2 ^ n) (hmany : (s.cl i).many ≤ 100) (hbs : (s.cl i).bs ≤ 600) (hS : ∀ a, a < n → s.S a ≤ 600) (hops : s.ops.length ≤ 100) (hp : (s.cl i).part = 1)
    (h : Lay w0 w (rowsK g gl n s A cap R)) :
    Calls Try.prog 19 #[.pointer (some ⟨g, 0, none⟩), .int .i64 i, .int .i64 to, .int .i64 now] w fun e w' => e = .returned (.tuple #[]) ∧ ∃ A' cap', Lay w0 w' (rowsK g gl n (reachS n i to now s) A' cap' R) := by
  obtain ⟨iO, hiO, hzO0, hzO1, hzO2⟩ := info_parts infoOpC
  have H := Lib.hid h; clear h
  have HOPS := Lib.hid hops
  have hr32 : (s.cl i).rch < 4294967296 := Nat.lt_of_lt_of_le hrch (Nat.le_trans (Nat.pow_le_pow_right (by omega) hn) (by decide))
  have hor := or_pow (m := to) hr32 (by omega)
  have HSB := Lib.hid hS
  obtain ⟨s', hs'⟩ : ∃ s', s' = reachS n i to now s := ⟨_, rfl⟩
  rw [← hs']
  have HS' := Lib.hid hs'
  clear hs' hops hS
  have HR1 : Hid (Lay w0 ((w.setCell ⟨g, 2 + i * 8 + 4, none⟩ (.int .u32 ((s.cl i).rch ||| 2 ^ to : Nat))).setCell ⟨g, 2 + i * 8 + 5, none⟩ (.int .i64 ((s.cl i).many + 1 : Nat))) (rowsK g gl n (r1S i to s) A cap R)) := by
    have h1 := co_fld (i := i) 4 { s.cl i with rch := (s.cl i).rch ||| 2 ^ to } H.out hi (by omega) (fun k hk hne => by unfold clF; simp [hne])
    have h2 := co_fld (i := i) 5 { s.cl i with rch := (s.cl i).rch ||| 2 ^ to, many := (s.cl i).many + 1 } h1 hi (by omega) (fun k hk hne => by rw [setC_self]; unfold clF; simp [hne])
    rw [setC_setC] at h2
    exact h2
  obtain ⟨a0, a1, a50⟩ := co_hd H.out
  obtain ⟨c0, c1, c2, c3, c4, c5, c6, c7⟩ := co_cl H.out (i := i) hi
  have f0 := H.out.frz 0 rfl (by omega) (2 + i * 8)
  have f1 := H.out.frz 0 rfl (by omega) (2 + i * 8 + 1)
  have f2 := H.out.frz 0 rfl (by omega) (2 + i * 8 + 2)
  have f3 := H.out.frz 0 rfl (by omega) (2 + i * 8 + 3)
  have f4 := H.out.frz 0 rfl (by omega) (2 + i * 8 + 4)
  have f5 := H.out.frz 0 rfl (by omega) (2 + i * 8 + 5)
  have f6 := H.out.frz 0 rfl (by omega) (2 + i * 8 + 6)
  have f7 := H.out.frz 0 rfl (by omega) (2 + i * 8 + 7)
  have f50 := H.out.frz 0 rfl (by omega) 50
  have ng := H.out.ne_ 0 1 rfl rfl (by omega)
  obtain ⟨k0, k1⟩ := co_kp H.out (t := to) hto
  have g0 := H.out.frz 1 rfl (by omega) (to * 2)
  have g1 := H.out.frz 1 rfl (by omega) (to * 2 + 1)
  go_enter Try.func19, Try.ntmps19
  go_wp2
  refine wp_text_all (by kernel_rfl) (by kernel_rfl) (by kernel_rfl) (by repeat' (first | (with_reducible apply tame_then) | (with_reducible apply tame_block) | (with_reducible apply tame_scope) | exact tame_gives | exact tame_body (fun _ _ h => ⟨_, h.1⟩))) ?_
  go_wp2
  refine headed ?_
  go_wp2
  refine wp_text 9 (by kernel_rfl) (by kernel_rfl) (by kernel_rfl) (by repeat' (first | (with_reducible apply tame_then) | (with_reducible apply tame_block) | (with_reducible apply tame_scope) | exact tame_gives | exact tame_body (fun _ _ h => ⟨_, h.1⟩))) ?_
  simp only [List.take_succ_cons, List.take_zero, List.drop_succ_cons, List.drop_zero]
  go_wp2
  refine headed ?_
  go_wp2
  refine at_world (F := fun W' => Code.wp _ _ _ _ W') (fun W => Lay w0 W (rowsK g gl n (r1S i to s) A cap R)) (HR1.out.sim ⟨rfl, rfl, rfl, rfl⟩) ?_
  intro W hW
  have HW := Lib.hid hW
  have hp1 : ((r1S i to s).cl i).part = 1 := by rw [r1_cl]; exact hp
  have hm1 : ((r1S i to s).cl i).many ≤ 101 := by rw [r1_cl]; show (s.cl i).many + 1 ≤ 101; omega
  have hb1 : ((r1S i to s).cl i).bs ≤ 600 := by rw [r1_cl]; exact hbs
  have hS1 : (r1S i to s).S to ≤ 600 := HSB.out to hto
  have HO1 : Hid ((r1S i to s).ops.length ≤ 100) := HOPS.out
  clear hW HR1 hor hr32 k0 k1 g0 g1 hp hmany hbs hrch HSB HOPS H
  clear a0 a1 a50 c0 c1 c2 c3 c4 c5 c6 c7 f0 f1 f2 f3 f4 f5 f6 f7 f50 ng
  have HS1 : Hid (s' = r3S n i now (r2S i to (r1S i to s))) := HS'.out
  clear HS'
  generalize r1S i to s = s1 at HW hp1 hm1 hb1 hS1 HO1 HS1
  obtain ⟨a0, a1, a50⟩ := co_hd HW.out
  obtain ⟨c0, c1, c2, c3, c4, c5, c6, c7⟩ := co_cl HW.out (i := i) hi
  have f0 := HW.out.frz 0 rfl (by omega) (2 + i * 8)
  have f1 := HW.out.frz 0 rfl (by omega) (2 + i * 8 + 1)
  have f2 := HW.out.frz 0 rfl (by omega) (2 + i * 8 + 2)
  have f3 := HW.out.frz 0 rfl (by omega) (2 + i * 8 + 3)
  have f4 := HW.out.frz 0 rfl (by omega) (2 + i * 8 + 4)
  have f5 := HW.out.frz 0 rfl (by omega) (2 + i * 8 + 5)
  have f6 := HW.out.frz 0 rfl (by omega) (2 + i * 8 + 6)
  have f7 := HW.out.frz 0 rfl (by omega) (2 + i * 8 + 7)
  have f50 := HW.out.frz 0 rfl (by omega) 50
  have ng := HW.out.ne_ 0 1 rfl rfl (by omega)
  obtain ⟨k0, k1⟩ := co_kp HW.out (t := to) hto
  have g0 := HW.out.frz 1 rfl (by omega) (to * 2)
  have g1 := HW.out.frz 1 rfl (by omega) (to * 2 + 1)
  rw [hp1] at c0
  by_cases hx : (s1.cl i).bs < s1.S to
  · have HR2 : Hid (r2S i to s1 = setC s1 i { s1.cl i with bs := s1.S to, bv := s1.V to }) := if_pos ⟨hp1, hx⟩
    have HZ : Hid (Lay w0 ((W.setCell ⟨g, 2 + i * 8 + 6, none⟩ (.int .i64 (s1.S to : Nat))).setCell ⟨g, 2 + i * 8 + 7, none⟩ (.int .i64 (s1.V to))) (rowsK g gl n (setC s1 i { s1.cl i with bs := s1.S to, bv := s1.V to }) A cap R)) := by
      have h1 := co_fld (i := i) 6 { s1.cl i with bs := s1.S to } HW.out hi (by omega) (fun k hk hne => by unfold clF; simp [hne])
      have h2 := co_fld (i := i) 7 { s1.cl i with bs := s1.S to, bv := s1.V to } h1 hi (by omega) (fun k hk hne => by rw [setC_self]; refine clF_bv ?_ ?_ ?_ ?_ ?_ ?_ ?_ hk hne <;> rfl)
      rw [setC_setC] at h2
      exact h2
    refine wp_text_all (by kernel_rfl) (by kernel_rfl) (by kernel_rfl) (by repeat' (first | (with_reducible apply tame_then) | (with_reducible apply tame_block) | (with_reducible apply tame_scope) | exact tame_gives | exact tame_body (fun _ _ h => ⟨_, h.1⟩))) ?_
    go_wp2
    refine headed ?_
    go_wp2
    refine at_world (F := fun W' => Code.wp _ _ _ _ W') (fun W => Lay w0 W (rowsK g gl n (setC s1 i { s1.cl i with bs := s1.S to, bv := s1.V to }) A cap R)) (HZ.out.sim ⟨rfl, rfl, rfl, rfl⟩) ?_
    intro W2 hW2
    obtain ⟨s2, hs2⟩ : ∃ s2, s2 = setC s1 i { s1.cl i with bs := s1.S to, bv := s1.V to } := ⟨_, rfl⟩
    have hp2 : (s2.cl i).part = 1 := by rw [hs2, setC_self]; exact hp1
    have hm2 : (s2.cl i).many ≤ 101 := by rw [hs2, setC_self]; exact hm1
    have hb2 : (s2.cl i).bs ≤ 600 := by rw [hs2, setC_self]; exact hS1
    have HO2 : Hid (s2.ops.length ≤ 100) := by show s2.ops.length ≤ 100; rw [hs2]; exact HO1.out
    have HS2 : Hid (s' = r3S n i now s2) := by show s' = _; rw [hs2, ← HR2.out]; exact HS1.out
    rw [← hs2] at hW2
    clear HW HZ HR2 HS1 HO1 hS1 hb1 hm1 hp1 hs2 hx k0 k1 g0 g1
    clear a0 a1 a50 c0 c1 c2 c3 c4 c5 c6 c7 f0 f1 f2 f3 f4 f5 f6 f7 f50 ng
    have HW := Lib.hid hW2
    clear hW2
    generalize W2 = W at HW ⊢
    obtain ⟨a0, a1, a50⟩ := co_hd HW.out
    obtain ⟨c0, c1, c2, c3, c4, c5, c6, c7⟩ := co_cl HW.out (i := i) hi
    have f0 := HW.out.frz 0 rfl (by omega) (2 + i * 8)
    have f1 := HW.out.frz 0 rfl (by omega) (2 + i * 8 + 1)
    have f2 := HW.out.frz 0 rfl (by omega) (2 + i * 8 + 2)
    have f3 := HW.out.frz 0 rfl (by omega) (2 + i * 8 + 3)
    have f4 := HW.out.frz 0 rfl (by omega) (2 + i * 8 + 4)
    have f5 := HW.out.frz 0 rfl (by omega) (2 + i * 8 + 5)
    have f6 := HW.out.frz 0 rfl (by omega) (2 + i * 8 + 6)
    have f7 := HW.out.frz 0 rfl (by omega) (2 + i * 8 + 7)
    have f50 := HW.out.frz 0 rfl (by omega) 50
    have ng := HW.out.ne_ 0 1 rfl rfl (by omega)
    rw [hp2] at c0
    by_cases hmj : 2 * (s2.cl i).many ≤ n
    · have HF : Hid (s' = s2) := HS2.out.trans (if_pos hmj)
      refine wp_text_all (by kernel_rfl) (by kernel_rfl) (by kernel_rfl) (by repeat' (first | (with_reducible apply tame_then) | (with_reducible apply tame_block) | (with_reducible apply tame_scope) | exact tame_gives | exact tame_body (fun _ _ h => ⟨_, h.1⟩))) ?_
      go_wp2
      refine headed ?_
      go_wp2
      first | go_end0 | (refine bodyPost_ret (results_none rfl _ _ _) rfl ?_)
      exact ⟨rfl, A, cap, by rw [HF.out]; exact HW.out.sim ⟨rfl, rfl, rfl, rfl⟩⟩
    · have HF0 := Lib.hid (HS2.out.trans ((if_neg hmj).trans (if_pos hp2)))
      have hmj : n < 2 * (s2.cl i).many := by omega
      have HZ : Hid (Lay w0 (((W.setCell ⟨g, 2 + i * 8 + 4, none⟩ (.int .u32 (0 : Nat))).setCell ⟨g, 2 + i * 8 + 5, none⟩ (.int .i64 (0 : Nat))).setCell ⟨g, 2 + i * 8 + 0, none⟩ (.int .i64 (2 : Nat))) (rowsK g gl n (setC s2 i { s2.cl i with rch := 0, many := 0, part := 2 }) A cap R)) := by
        have h1 := co_fld (i := i) 4 { s2.cl i with rch := 0 } HW.out hi (by omega) (fun k hk hne => by unfold clF; simp [hne])
        have h2 := co_fld (i := i) 5 { s2.cl i with rch := 0, many := 0 } h1 hi (by omega) (fun k hk hne => by rw [setC_self]; unfold clF; simp [hne])
        have h3 := co_fld (i := i) 0 { s2.cl i with rch := 0, many := 0, part := 2 } h2 hi (by omega) (fun k hk hne => by rw [setC_self]; unfold clF; simp [hne])
        rw [setC_setC, setC_setC] at h3
        exact h3
      cases hwr : (s2.cl i).wr
      · have HF := Lib.hid (HF0.out.trans (if_neg (by rw [hwr]; simp)))
        rw [hwr] at c2
        clear hwr
        refine wp_text_all (by kernel_rfl) (by kernel_rfl) (by kernel_rfl) (by repeat' (first | (with_reducible apply tame_then) | (with_reducible apply tame_block) | (with_reducible apply tame_scope) | exact tame_gives | exact tame_body (fun _ _ h => ⟨_, h.1⟩))) ?_
        go_wp2
        refine headed ?_
        go_wp2
        first | go_end0 | (refine bodyPost_ret (results_none rfl _ _ _) rfl ?_)
        exact ⟨rfl, A, cap, by rw [HF.out]; exact HZ.out.sim ⟨rfl, rfl, rfl, rfl⟩⟩
      · have HF := Lib.hid (HF0.out.trans (if_pos hwr))
        rw [hwr] at c2
        clear hwr
        refine wp_text_all (by kernel_rfl) (by kernel_rfl) (by kernel_rfl) (by repeat' (first | (with_reducible apply tame_then) | (with_reducible apply tame_block) | (with_reducible apply tame_scope) | exact tame_gives | exact tame_body (fun _ _ h => ⟨_, h.1⟩))) ?_
        go_wp2
        refine headed ?_
        go_wp2
        refine at_world (F := fun W' => Code.wp _ _ _ _ W') (fun W => Lay w0 W (rowsK g gl n (setC s2 i { s2.cl i with rch := 0, many := 0, part := 2 }) A cap R)) (HZ.out.sim ⟨rfl, rfl, rfl, rfl⟩) ?_
        intro W3 hW3
        have HW3 := Lib.hid hW3
        clear hW3 HZ
        clear a0 a1 a50 c0 c1 c2 c3 c4 c5 c6 c7 f0 f1 f2 f3 f4 f5 f6 f7 f50 ng
        have HE6 : Hid (Lay w0 ((W3.drew.setCell ⟨g, 2 + i * 8 + 6, none⟩ (.int .i64 (abv (s2.cl i).bs i : Nat))).setCell ⟨g, 2 + i * 8 + 7, none⟩ (.int .i64 (s2.cl i).val)) (rowsK g gl n s' A cap R)) := by
          have h1 := co_fld (i := i) 6 { s2.cl i with rch := 0, many := 0, part := 2, bs := abv (s2.cl i).bs i } HW3.out.drew hi (by omega) (fun k hk hne => by rw [setC_self]; unfold clF; simp [hne])
          have h2 := co_fld (i := i) 7 { s2.cl i with rch := 0, many := 0, part := 2, bs := abv (s2.cl i).bs i, bv := (s2.cl i).val } h1 hi (by omega) (fun k hk hne => by rw [setC_self]; refine clF_bv ?_ ?_ ?_ ?_ ?_ ?_ ?_ hk hne <;> rfl)
          rw [setC_setC, setC_setC] at h2
          rw [HF.out]
          exact h2
        obtain ⟨d0, d1, d2, d3, d4, d5, d6, d7⟩ := co_cl HW3.out hi
        have f6 := HW3.out.frz 0 rfl (by omega) (2 + i * 8 + 6)
        have f7 := HW3.out.frz 0 rfl (by omega) (2 + i * 8 + 7)
        rw [setC_self] at d3 d6 d7
        have d3 : W3.cell? ⟨g, 2 + i * 8 + 3, none⟩ = some (.int .i64 (s2.cl i).val) := d3
        have d6 : W3.cell? ⟨g, 2 + i * 8 + 6, none⟩ = some (.int .i64 ((s2.cl i).bs : Nat)) := d6
        have d7 : W3.cell? ⟨g, 2 + i * 8 + 7, none⟩ = some (.int .i64 (s2.cl i).bv) := d7
        clear d0 d1 d2 d4 d5
        refine wp_held_mask (fun W => W.cell? ⟨g, 2 + i * 8 + 3, none⟩ = some (.int .i64 (s2.cl i).val) ∧ W.cell? ⟨g, 2 + i * 8 + 6, none⟩ = some (.int .i64 ((s2.cl i).bs : Nat))) [true, true, true, true, true, true, true, false, true, true, true, true, false, false, false, false] ?Ax1 (by kernel_rfl) rfl (by kernel_rfl) (by repeat' (first | (with_reducible apply tame_then) | (with_reducible apply tame_block) | (with_reducible apply tame_scope) | exact tame_gives | exact tame_body (fun _ _ h => ⟨_, h.1⟩))) ⟨d3, d6⟩ ?headx1 ?tailx1
        case headx1 =>
          intro W5 ⟨x0, x1⟩
          simp only [pick]
          go_wp2
          exact taken
        case tailx1 =>
          simp only [pick, List.map_cons, List.map_nil, Bool.not_true, Bool.not_false]
          refine tail_step ?_
          go_wp2_with fail
          refine (above_any _ i _ hi (by omega)).mono ?_
          rintro e w5 ⟨rfl, rfl⟩
          go_wp2
          refine holds ⟨d3, d6⟩ ?_
          refine tail_step ?_
          go_wp2
          refine holds ⟨d3, d6⟩ ?_
          refine tail_step ?_
          go_wp2
          refine holds ⟨d3, d6⟩ ?_
          refine tail_step ?_
          go_wp2
          refine holds ⟨d3, d6⟩ ?_
          refine tail_last ?_
          go_wp2
          first | go_end0 | (refine bodyPost_ret (results_none rfl _ _ _) rfl ?_)
          exact ⟨rfl, A, cap, HE6.out⟩
  · have HR2 : Hid (r2S i to s1 = s1) := (if_neg (fun hh => hx hh.2)).trans (if_neg (fun hh => by have := hh.1; omega))
    have hx : s1.S to ≤ (s1.cl i).bs := by omega
    have HZ : Hid (Lay w0 W (rowsK g gl n s1 A cap R)) := HW
    refine wp_text_all (by kernel_rfl) (by kernel_rfl) (by kernel_rfl) (by repeat' (first | (with_reducible apply tame_then) | (with_reducible apply tame_block) | (with_reducible apply tame_scope) | exact tame_gives | exact tame_body (fun _ _ h => ⟨_, h.1⟩))) ?_
    go_wp2
    refine headed ?_
    go_wp2
    refine wp_text_all (by kernel_rfl) (by kernel_rfl) (by kernel_rfl) (by repeat' (first | (with_reducible apply tame_then) | (with_reducible apply tame_block) | (with_reducible apply tame_scope) | exact tame_gives | exact tame_body (fun _ _ h => ⟨_, h.1⟩))) ?_
    go_wp2
    refine headed ?_
    go_wp2
    refine at_world (F := fun W' => Code.wp _ _ _ _ W') (fun W => Lay w0 W (rowsK g gl n (s1) A cap R)) (HZ.out.sim ⟨rfl, rfl, rfl, rfl⟩) ?_
    intro W2 hW2
    obtain ⟨s2, hs2⟩ : ∃ s2, s2 = s1 := ⟨_, rfl⟩
    have hp2 : (s2.cl i).part = 1 := by rw [hs2]; exact hp1
    have hm2 : (s2.cl i).many ≤ 101 := by rw [hs2]; exact hm1
    have hb2 : (s2.cl i).bs ≤ 600 := by rw [hs2]; exact hb1
    have HO2 : Hid (s2.ops.length ≤ 100) := by show s2.ops.length ≤ 100; rw [hs2]; exact HO1.out
    have HS2 : Hid (s' = r3S n i now s2) := by show s' = _; rw [hs2, ← HR2.out]; exact HS1.out
    rw [← hs2] at hW2
    clear HW HZ HR2 HS1 HO1 hS1 hb1 hm1 hp1 hs2 hx k0 k1 g0 g1
    clear a0 a1 a50 c0 c1 c2 c3 c4 c5 c6 c7 f0 f1 f2 f3 f4 f5 f6 f7 f50 ng
    have HW := Lib.hid hW2
    clear hW2
    generalize W2 = W at HW ⊢
    obtain ⟨a0, a1, a50⟩ := co_hd HW.out
    obtain ⟨c0, c1, c2, c3, c4, c5, c6, c7⟩ := co_cl HW.out (i := i) hi
    have f0 := HW.out.frz 0 rfl (by omega) (2 + i * 8)
    have f1 := HW.out.frz 0 rfl (by omega) (2 + i * 8 + 1)
    have f2 := HW.out.frz 0 rfl (by omega) (2 + i * 8 + 2)
    have f3 := HW.out.frz 0 rfl (by omega) (2 + i * 8 + 3)
    have f4 := HW.out.frz 0 rfl (by omega) (2 + i * 8 + 4)
    have f5 := HW.out.frz 0 rfl (by omega) (2 + i * 8 + 5)
    have f6 := HW.out.frz 0 rfl (by omega) (2 + i * 8 + 6)
    have f7 := HW.out.frz 0 rfl (by omega) (2 + i * 8 + 7)
    have f50 := HW.out.frz 0 rfl (by omega) 50
    have ng := HW.out.ne_ 0 1 rfl rfl (by omega)
    rw [hp2] at c0
    by_cases hmj : 2 * (s2.cl i).many ≤ n
    · have HF : Hid (s' = s2) := HS2.out.trans (if_pos hmj)
      refine wp_text_all (by kernel_rfl) (by kernel_rfl) (by kernel_rfl) (by repeat' (first | (with_reducible apply tame_then) | (with_reducible apply tame_block) | (with_reducible apply tame_scope) | exact tame_gives | exact tame_body (fun _ _ h => ⟨_, h.1⟩))) ?_
      go_wp2
      refine headed ?_
      go_wp2
      first | go_end0 | (refine bodyPost_ret (results_none rfl _ _ _) rfl ?_)
      exact ⟨rfl, A, cap, by rw [HF.out]; exact HW.out.sim ⟨rfl, rfl, rfl, rfl⟩⟩
    · have HF0 := Lib.hid (HS2.out.trans ((if_neg hmj).trans (if_pos hp2)))
      have hmj : n < 2 * (s2.cl i).many := by omega
      have HZ : Hid (Lay w0 (((W.setCell ⟨g, 2 + i * 8 + 4, none⟩ (.int .u32 (0 : Nat))).setCell ⟨g, 2 + i * 8 + 5, none⟩ (.int .i64 (0 : Nat))).setCell ⟨g, 2 + i * 8 + 0, none⟩ (.int .i64 (2 : Nat))) (rowsK g gl n (setC s2 i { s2.cl i with rch := 0, many := 0, part := 2 }) A cap R)) := by
        have h1 := co_fld (i := i) 4 { s2.cl i with rch := 0 } HW.out hi (by omega) (fun k hk hne => by unfold clF; simp [hne])
        have h2 := co_fld (i := i) 5 { s2.cl i with rch := 0, many := 0 } h1 hi (by omega) (fun k hk hne => by rw [setC_self]; unfold clF; simp [hne])
        have h3 := co_fld (i := i) 0 { s2.cl i with rch := 0, many := 0, part := 2 } h2 hi (by omega) (fun k hk hne => by rw [setC_self]; unfold clF; simp [hne])
        rw [setC_setC, setC_setC] at h3
        exact h3
      cases hwr : (s2.cl i).wr
      · have HF := Lib.hid (HF0.out.trans (if_neg (by rw [hwr]; simp)))
        rw [hwr] at c2
        clear hwr
        refine wp_text_all (by kernel_rfl) (by kernel_rfl) (by kernel_rfl) (by repeat' (first | (with_reducible apply tame_then) | (with_reducible apply tame_block) | (with_reducible apply tame_scope) | exact tame_gives | exact tame_body (fun _ _ h => ⟨_, h.1⟩))) ?_
        go_wp2
        refine headed ?_
        go_wp2
        first | go_end0 | (refine bodyPost_ret (results_none rfl _ _ _) rfl ?_)
        exact ⟨rfl, A, cap, by rw [HF.out]; exact HZ.out.sim ⟨rfl, rfl, rfl, rfl⟩⟩
      · have HF := Lib.hid (HF0.out.trans (if_pos hwr))
        rw [hwr] at c2
        clear hwr
        refine wp_text_all (by kernel_rfl) (by kernel_rfl) (by kernel_rfl) (by repeat' (first | (with_reducible apply tame_then) | (with_reducible apply tame_block) | (with_reducible apply tame_scope) | exact tame_gives | exact tame_body (fun _ _ h => ⟨_, h.1⟩))) ?_
        go_wp2
        refine headed ?_
        go_wp2
        refine at_world (F := fun W' => Code.wp _ _ _ _ W') (fun W => Lay w0 W (rowsK g gl n (setC s2 i { s2.cl i with rch := 0, many := 0, part := 2 }) A cap R)) (HZ.out.sim ⟨rfl, rfl, rfl, rfl⟩) ?_
        intro W3 hW3
        have HW3 := Lib.hid hW3
        clear hW3 HZ
        clear a0 a1 a50 c0 c1 c2 c3 c4 c5 c6 c7 f0 f1 f2 f3 f4 f5 f6 f7 f50 ng
        have HE6 : Hid (Lay w0 ((W3.drew.setCell ⟨g, 2 + i * 8 + 6, none⟩ (.int .i64 (abv (s2.cl i).bs i : Nat))).setCell ⟨g, 2 + i * 8 + 7, none⟩ (.int .i64 (s2.cl i).val)) (rowsK g gl n s' A cap R)) := by
          have h1 := co_fld (i := i) 6 { s2.cl i with rch := 0, many := 0, part := 2, bs := abv (s2.cl i).bs i } HW3.out.drew hi (by omega) (fun k hk hne => by rw [setC_self]; unfold clF; simp [hne])
          have h2 := co_fld (i := i) 7 { s2.cl i with rch := 0, many := 0, part := 2, bs := abv (s2.cl i).bs i, bv := (s2.cl i).val } h1 hi (by omega) (fun k hk hne => by rw [setC_self]; refine clF_bv ?_ ?_ ?_ ?_ ?_ ?_ ?_ hk hne <;> rfl)
          rw [setC_setC, setC_setC] at h2
          rw [HF.out]
          exact h2
        obtain ⟨d0, d1, d2, d3, d4, d5, d6, d7⟩ := co_cl HW3.out hi
        have f6 := HW3.out.frz 0 rfl (by omega) (2 + i * 8 + 6)
        have f7 := HW3.out.frz 0 rfl (by omega) (2 + i * 8 + 7)
        rw [setC_self] at d3 d6 d7
        have d3 : W3.cell? ⟨g, 2 + i * 8 + 3, none⟩ = some (.int .i64 (s2.cl i).val) := d3
        have d6 : W3.cell? ⟨g, 2 + i * 8 + 6, none⟩ = some (.int .i64 ((s2.cl i).bs : Nat)) := d6
        have d7 : W3.cell? ⟨g, 2 + i * 8 + 7, none⟩ = some (.int .i64 (s2.cl i).bv) := d7
        clear d0 d1 d2 d4 d5
        refine wp_held_mask (fun W => W.cell? ⟨g, 2 + i * 8 + 3, none⟩ = some (.int .i64 (s2.cl i).val) ∧ W.cell? ⟨g, 2 + i * 8 + 6, none⟩ = some (.int .i64 ((s2.cl i).bs : Nat))) [true, true, true, true, true, true, true, false, true, true, true, true, false, false, false, false] ?Ax2 (by kernel_rfl) rfl (by kernel_rfl) (by repeat' (first | (with_reducible apply tame_then) | (with_reducible apply tame_block) | (with_reducible apply tame_scope) | exact tame_gives | exact tame_body (fun _ _ h => ⟨_, h.1⟩))) ⟨d3, d6⟩ ?headx2 ?tailx2
        case headx2 =>
          intro W5 ⟨x0, x1⟩
          simp only [pick]
          go_wp2
          exact taken
        case tailx2 =>
          simp only [pick, List.map_cons, List.map_nil, Bool.not_true, Bool.not_false]
          refine tail_step ?_
          go_wp2_with fail
          refine (above_any _ i _ hi (by omega)).mono ?_
          rintro e w5 ⟨rfl, rfl⟩
          go_wp2
          refine holds ⟨d3, d6⟩ ?_
          refine tail_step ?_
          go_wp2
          refine holds ⟨d3, d6⟩ ?_
          refine tail_step ?_
          go_wp2
          refine holds ⟨d3, d6⟩ ?_
          refine tail_step ?_
          go_wp2
          refine holds ⟨d3, d6⟩ ?_
          refine tail_last ?_
          go_wp2
          first | go_end0 | (refine bodyPost_ret (results_none rfl _ _ _) rfl ?_)
          exact ⟨rfl, A, cap, HE6.out⟩
end
end Go.Proofs.Ytoakgoigamigjaa
