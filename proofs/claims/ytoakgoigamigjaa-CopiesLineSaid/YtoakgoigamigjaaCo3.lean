/- The walk of reach, second part. -/
import Derived.Test.YtoakgoigamigjaaCoOp
set_option linter.unusedVariables false
set_option linter.unusedSimpArgs false
namespace Go.Proofs.Ytoakgoigamigjaa
open Go.RowKit

section
variable (g gl n : Nat) (s : CS) (A : Option Addr) (cap : Nat) (R : List LRow) (w0 w : World)
set_option maxRecDepth 100000 in
set_option maxHeartbeats 12800000 in
theorem reach2_any (i to now : Nat) (hn : n ≤ 6) (hi : i < 6) (hto : to < n) (hnow : now ≤ 100) (hrch : (s.cl i).rch < 2 ^ n) (hmany : (s.cl i).many ≤ 100) (hbs : (s.cl i).bs ≤ 600) (hS : ∀ a, a < n → s.S a ≤ 600) (hops : s.ops.length ≤ 100) (hp : (s.cl i).part = 2)
    (h : Lay w0 w (rowsK g gl n s A cap R)) :
    Calls Try.prog 19 #[.pointer (some ⟨g, 0, none⟩), .int .i64 i, .int .i64 to, .int .i64 now] w fun e w' => e = .returned (.tuple #[]) ∧ ∃ A' cap', Lay w0 w' (rowsK g gl n (reachS n i to now s) A' cap' R) := by
  obtain ⟨iO, hiO, hzO0, hzO1, hzO2⟩ := info_parts infoOpC
  have H := Lib.hid h; clear h
  have HOPS := Lib.hid hops
  have hr32 : (s.cl i).rch < 4294967296 := Nat.lt_of_lt_of_le hrch (Nat.le_trans (Nat.pow_le_pow_right (by omega) hn) (by decide))
  have hor := or_pow (m := to) hr32 (by omega)
  have HSB := Lib.hid hS
  obtain ⟨s', hs'⟩ : ∃ s', s' = reachS n i to now s := ⟨_, rfl⟩
  rw [← hs']
  have HS' := Lib.hid hs'
  clear hs' hops hS
  have HR1 : Hid (Lay w0 ((w.setCell ⟨g, 2 + i * 8 + 4, none⟩ (.int .u32 ((s.cl i).rch ||| 2 ^ to : Nat))).setCell ⟨g, 2 + i * 8 + 5, none⟩ (.int .i64 ((s.cl i).many + 1 : Nat))) (rowsK g gl n (r1S i to s) A cap R)) := by
    have h1 := co_fld (i := i) 4 { s.cl i with rch := (s.cl i).rch ||| 2 ^ to } H.out hi (by omega) (fun k hk hne => by unfold clF; simp [hne])
    have h2 := co_fld (i := i) 5 { s.cl i with rch := (s.cl i).rch ||| 2 ^ to, many := (s.cl i).many + 1 } h1 hi (by omega) (fun k hk hne => by rw [setC_self]; unfold clF; simp [hne])
    rw [setC_setC] at h2
    exact h2
  obtain ⟨a0, a1, a50⟩ := co_hd H.out
  obtain ⟨c0, c1, c2, c3, c4, c5, c6, c7⟩ := co_cl H.out (i := i) hi
  have f0 := H.out.frz 0 rfl (by omega) (2 + i * 8)
  have f1 := H.out.frz 0 rfl (by omega) (2 + i * 8 + 1)
  have f2 := H.out.frz 0 rfl (by omega) (2 + i * 8 + 2)
  have f3 := H.out.frz 0 rfl (by omega) (2 + i * 8 + 3)
  have f4 := H.out.frz 0 rfl (by omega) (2 + i * 8 + 4)
  have f5 := H.out.frz 0 rfl (by omega) (2 + i * 8 + 5)
  have f6 := H.out.frz 0 rfl (by omega) (2 + i * 8 + 6)
  have f7 := H.out.frz 0 rfl (by omega) (2 + i * 8 + 7)
  have f50 := H.out.frz 0 rfl (by omega) 50
  have ng := H.out.ne_ 0 1 rfl rfl (by omega)
  obtain ⟨k0, k1⟩ := co_kp H.out (t := to) hto
  have g0 := H.out.frz 1 rfl (by omega) (to * 2)
  have g1 := H.out.frz 1 rfl (by omega) (to * 2 + 1)
  go_enter Try.func19, Try.ntmps19
  go_wp2
  refine wp_text_all (by kernel_rfl) (by kernel_rfl) (by kernel_rfl) (by repeat' (first | (with_reducible apply tame_then) | (with_reducible apply tame_block) | (with_reducible apply tame_scope) | exact tame_gives | exact tame_body (fun _ _ h => ⟨_, h.1⟩))) ?_
  go_wp2
  refine headed ?_
  go_wp2
  refine wp_text 9 (by kernel_rfl) (by kernel_rfl) (by kernel_rfl) (by repeat' (first | (with_reducible apply tame_then) | (with_reducible apply tame_block) | (with_reducible apply tame_scope) | exact tame_gives | exact tame_body (fun _ _ h => ⟨_, h.1⟩))) ?_
  simp only [List.take_succ_cons, List.take_zero, List.drop_succ_cons, List.drop_zero]
  go_wp2
  refine headed ?_
  go_wp2
  refine at_world (F := fun W' => Code.wp _ _ _ _ W') (fun W => Lay w0 W (rowsK g gl n (r1S i to s) A cap R)) (HR1.out.sim ⟨rfl, rfl, rfl, rfl⟩) ?_
  intro W hW
  have HW := Lib.hid hW
  have hp1 : ((r1S i to s).cl i).part = 2 := by rw [r1_cl]; exact hp
  have hm1 : ((r1S i to s).cl i).many ≤ 101 := by rw [r1_cl]; show (s.cl i).many + 1 ≤ 101; omega
  have hb1 : ((r1S i to s).cl i).bs ≤ 600 := by rw [r1_cl]; exact hbs
  have hS1 : (r1S i to s).S to ≤ 600 := HSB.out to hto
  have HO1 : Hid ((r1S i to s).ops.length ≤ 100) := HOPS.out
  clear hW HR1 hor hr32 k0 k1 g0 g1 hp hmany hbs hrch HSB HOPS H
  clear a0 a1 a50 c0 c1 c2 c3 c4 c5 c6 c7 f0 f1 f2 f3 f4 f5 f6 f7 f50 ng
  have HS1 : Hid (s' = r3S n i now (r2S i to (r1S i to s))) := HS'.out
  clear HS'
  generalize r1S i to s = s1 at HW hp1 hm1 hb1 hS1 HO1 HS1
  obtain ⟨a0, a1, a50⟩ := co_hd HW.out
  obtain ⟨c0, c1, c2, c3, c4, c5, c6, c7⟩ := co_cl HW.out (i := i) hi
  have f0 := HW.out.frz 0 rfl (by omega) (2 + i * 8)
  have f1 := HW.out.frz 0 rfl (by omega) (2 + i * 8 + 1)
  have f2 := HW.out.frz 0 rfl (by omega) (2 + i * 8 + 2)
  have f3 := HW.out.frz 0 rfl (by omega) (2 + i * 8 + 3)
  have f4 := HW.out.frz 0 rfl (by omega) (2 + i * 8 + 4)
  have f5 := HW.out.frz 0 rfl (by omega) (2 + i * 8 + 5)
  have f6 := HW.out.frz 0 rfl (by omega) (2 + i * 8 + 6)
  have f7 := HW.out.frz 0 rfl (by omega) (2 + i * 8 + 7)
  have f50 := HW.out.frz 0 rfl (by omega) 50
  have ng := HW.out.ne_ 0 1 rfl rfl (by omega)
  obtain ⟨k0, k1⟩ := co_kp HW.out (t := to) hto
  have g0 := HW.out.frz 1 rfl (by omega) (to * 2)
  have g1 := HW.out.frz 1 rfl (by omega) (to * 2 + 1)
  rw [hp1] at c0
  by_cases hx : s1.S to < (s1.cl i).bs
  · have HR2 : Hid (r2S i to s1 = { s1 with S := upd s1.S to (s1.cl i).bs, V := upd s1.V to (s1.cl i).bv }) := (if_neg (fun hh => by have := hh.1; omega)).trans (if_pos ⟨hp1, hx⟩)
    have HZ : Hid (Lay w0 ((W.setCell ⟨gl, to * 2, none⟩ (.int .i64 ((s1.cl i).bs : Nat))).setCell ⟨gl, to * 2 + 1, none⟩ (.int .i64 (s1.cl i).bv)) (rowsK g gl n { s1 with S := upd s1.S to (s1.cl i).bs, V := upd s1.V to (s1.cl i).bv } A cap R)) := co_V _ (co_S _ HW.out hto) hto
    refine wp_text_all (by kernel_rfl) (by kernel_rfl) (by kernel_rfl) (by repeat' (first | (with_reducible apply tame_then) | (with_reducible apply tame_block) | (with_reducible apply tame_scope) | exact tame_gives | exact tame_body (fun _ _ h => ⟨_, h.1⟩))) ?_
    go_wp2
    refine headed ?_
    go_wp2
    refine wp_text_all (by kernel_rfl) (by kernel_rfl) (by kernel_rfl) (by repeat' (first | (with_reducible apply tame_then) | (with_reducible apply tame_block) | (with_reducible apply tame_scope) | exact tame_gives | exact tame_body (fun _ _ h => ⟨_, h.1⟩))) ?_
    go_wp2
    refine headed ?_
    go_wp2
    refine at_world (F := fun W' => Code.wp _ _ _ _ W') (fun W => Lay w0 W (rowsK g gl n ({ s1 with S := upd s1.S to (s1.cl i).bs, V := upd s1.V to (s1.cl i).bv }) A cap R)) (HZ.out.sim ⟨rfl, rfl, rfl, rfl⟩) ?_
    intro W2 hW2
    obtain ⟨s2, hs2⟩ : ∃ s2, s2 = { s1 with S := upd s1.S to (s1.cl i).bs, V := upd s1.V to (s1.cl i).bv } := ⟨_, rfl⟩
    have hp2 : (s2.cl i).part = 2 := by rw [hs2]; exact hp1
    have hm2 : (s2.cl i).many ≤ 101 := by rw [hs2]; exact hm1
    have hb2 : (s2.cl i).bs ≤ 600 := by rw [hs2]; exact hb1
    have HO2 : Hid (s2.ops.length ≤ 100) := by show s2.ops.length ≤ 100; rw [hs2]; exact HO1.out
    have HS2 : Hid (s' = r3S n i now s2) := by show s' = _; rw [hs2, ← HR2.out]; exact HS1.out
    rw [← hs2] at hW2
    clear HW HZ HR2 HS1 HO1 hS1 hb1 hm1 hp1 hs2 hx k0 k1 g0 g1
    clear a0 a1 a50 c0 c1 c2 c3 c4 c5 c6 c7 f0 f1 f2 f3 f4 f5 f6 f7 f50 ng
    have HW := Lib.hid hW2
    clear hW2
    generalize W2 = W at HW ⊢
    obtain ⟨a0, a1, a50⟩ := co_hd HW.out
    obtain ⟨c0, c1, c2, c3, c4, c5, c6, c7⟩ := co_cl HW.out (i := i) hi
    have f0 := HW.out.frz 0 rfl (by omega) (2 + i * 8)
    have f1 := HW.out.frz 0 rfl (by omega) (2 + i * 8 + 1)
    have f2 := HW.out.frz 0 rfl (by omega) (2 + i * 8 + 2)
    have f3 := HW.out.frz 0 rfl (by omega) (2 + i * 8 + 3)
    have f4 := HW.out.frz 0 rfl (by omega) (2 + i * 8 + 4)
    have f5 := HW.out.frz 0 rfl (by omega) (2 + i * 8 + 5)
    have f6 := HW.out.frz 0 rfl (by omega) (2 + i * 8 + 6)
    have f7 := HW.out.frz 0 rfl (by omega) (2 + i * 8 + 7)
    have f50 := HW.out.frz 0 rfl (by omega) 50
    have ng := HW.out.ne_ 0 1 rfl rfl (by omega)
    rw [hp2] at c0
    by_cases hmj : 2 * (s2.cl i).many ≤ n
    · have HF : Hid (s' = s2) := HS2.out.trans (if_pos hmj)
      refine wp_text_all (by kernel_rfl) (by kernel_rfl) (by kernel_rfl) (by repeat' (first | (with_reducible apply tame_then) | (with_reducible apply tame_block) | (with_reducible apply tame_scope) | exact tame_gives | exact tame_body (fun _ _ h => ⟨_, h.1⟩))) ?_
      go_wp2
      refine headed ?_
      go_wp2
      first | go_end0 | (refine bodyPost_ret (results_none rfl _ _ _) rfl ?_)
      exact ⟨rfl, A, cap, by rw [HF.out]; exact HW.out.sim ⟨rfl, rfl, rfl, rfl⟩⟩
    · have HF := Lib.hid (HS2.out.trans ((if_neg hmj).trans (if_neg (by omega))))
      have hmj : n < 2 * (s2.cl i).many := by omega
      have HZ : Hid (Lay w0 (((W.setCell ⟨g, 2 + i * 8 + 4, none⟩ (.int .u32 (0 : Nat))).setCell ⟨g, 2 + i * 8 + 5, none⟩ (.int .i64 (0 : Nat))).setCell ⟨g, 2 + i * 8 + 0, none⟩ (.int .i64 (0 : Nat))) (rowsK g gl n (setC s2 i { s2.cl i with rch := 0, many := 0, part := 0 }) A cap R)) := by
        have h1 := co_fld (i := i) 4 { s2.cl i with rch := 0 } HW.out hi (by omega) (fun k hk hne => by unfold clF; simp [hne])
        have h2 := co_fld (i := i) 5 { s2.cl i with rch := 0, many := 0 } h1 hi (by omega) (fun k hk hne => by rw [setC_self]; unfold clF; simp [hne])
        have h3 := co_fld (i := i) 0 { s2.cl i with rch := 0, many := 0, part := 0 } h2 hi (by omega) (fun k hk hne => by rw [setC_self]; unfold clF; simp [hne])
        rw [setC_setC, setC_setC] at h3
        exact h3
      refine wp_text_all (by kernel_rfl) (by kernel_rfl) (by kernel_rfl) (by repeat' (first | (with_reducible apply tame_then) | (with_reducible apply tame_block) | (with_reducible apply tame_scope) | exact tame_gives | exact tame_body (fun _ _ h => ⟨_, h.1⟩))) ?_
      go_wp2
      refine headed ?_
      go_wp2
      refine at_world (F := fun W' => Code.wp _ _ _ _ W') (fun W => Lay w0 W (rowsK g gl n (setC s2 i { s2.cl i with rch := 0, many := 0, part := 0 }) A cap R)) (HZ.out.sim ⟨rfl, rfl, rfl, rfl⟩) ?_
      intro W3 hW3
      have HW3 := Lib.hid hW3
      clear hW3 HZ
      clear a0 a1 a50 c0 c1 c2 c3 c4 c5 c6 c7 f0 f1 f2 f3 f4 f5 f6 f7 f50 ng
      obtain ⟨d0, d1, d2, d3, d4, d5, d6, d7⟩ := co_cl HW3.out hi
      obtain ⟨_, _, d50⟩ := co_hd HW3.out
      rw [setC_self] at d1 d2 d7
      have d1 : W3.cell? ⟨g, 2 + i * 8 + 1, none⟩ = some (.int .i64 ((s2.cl i).beg : Nat)) := d1
      have d2 : W3.cell? ⟨g, 2 + i * 8 + 2, none⟩ = some (.bool (s2.cl i).wr) := d2
      have d7 : W3.cell? ⟨g, 2 + i * 8 + 7, none⟩ = some (.int .i64 (s2.cl i).bv) := d7
      have d50 : W3.cell? ⟨g, 50, none⟩ = some (.slice A s2.ops.length cap) := d50
      have hgl := (HW3.out.at_ 0 rfl).2
      have HL2 := HO2.out
      clear d0 d3 d4 d5 d6
      refine wp_held_mask (fun W => W.cell? ⟨g, 50, none⟩ = some (.slice A s2.ops.length cap) ∧ W.cell? ⟨g, 2 + i * 8 + 1, none⟩ = some (.int .i64 ((s2.cl i).beg : Nat)) ∧ W.cell? ⟨g, 2 + i * 8 + 2, none⟩ = some (.bool (s2.cl i).wr) ∧ W.cell? ⟨g, 2 + i * 8 + 7, none⟩ = some (.int .i64 (s2.cl i).bv))
        [true, true, true, true, true, true, true, true, true, true, true, true, true, true, true, true, true, true, true, true, false, false, false, false, false, false] ?Ax3 (by kernel_rfl) rfl (by kernel_rfl) (by repeat' (first | (with_reducible apply tame_then) | (with_reducible apply tame_block) | (with_reducible apply tame_scope) | exact tame_gives | exact tame_body (fun _ _ h => ⟨_, h.1⟩))) ⟨d50, d1, d2, d7⟩ ?headx3 ?tailx3
      case headx3 =>
        intro W5 ⟨x0, x1, x2, x3⟩
        simp only [pick]
        go_wp2
        exact taken
      case tailx3 =>
        simp only [pick, List.map_cons, List.map_nil, Bool.not_true, Bool.not_false]
        refine tail_step ?_
        go_wp2
        refine holds ⟨d50, d1, d2, d7⟩ ?_
        refine tail_step ?_
        go_wp2
        refine holds ⟨(World.cell?_alloc_lt _ _ _ hgl).trans d50, (World.cell?_alloc_lt _ _ _ hgl).trans d1, (World.cell?_alloc_lt _ _ _ hgl).trans d2, (World.cell?_alloc_lt _ _ _ hgl).trans d7⟩ ?_
        refine tail_step ?_
        refine wpList_ap rfl (.tmp 136) (.tmp 153) _ rfl 36 iO _ 5 40 Try.underlying24 hiO hzO0 hzO1 hzO2 rfl (by omega) w0.heap.size rfl ((HW3.out.alloc _).own 2 _ rfl) rfl (m := 1) (cell_new _ _ _ _ _ rfl (opG_new s2.ops ⟨i, (s2.cl i).beg, now, (s2.cl i).wr, (s2.cl i).bv⟩))
          (fun j _ => opG_one _ _) (opG (s2.ops ++ [⟨i, (s2.cl i).beg, now, (s2.cl i).wr, (s2.cl i).bv⟩])) (fun j hj => opG_old s2.ops _ hj) (fun j hj => rfl) (s2.ops.length + 1) rfl (by unfold maxLen; show s2.ops.length + 1 ≤ _; omega) (by show (s2.ops.length + 1) * 40 ≤ _; omega) (by have := HW3.out.size; simp; omega) ?_
        intro A2 cap2 u2 ho hg ha
        have hL2 := (HW3.out.alloc _).drew.app 2 rfl ho hg ha
        have q50 : u2.cell? ⟨g, 50, none⟩ = some (.slice A s2.ops.length cap) := hL2.cellB 0 rfl 50 (by omega)
        have hq := co_cl hL2 hi
        rw [setC_self] at hq
        have q1 : u2.cell? ⟨g, 2 + i * 8 + 1, none⟩ = some (.int .i64 ((s2.cl i).beg : Nat)) := hq.2.1
        have q2 : u2.cell? ⟨g, 2 + i * 8 + 2, none⟩ = some (.bool (s2.cl i).wr) := hq.2.2.1
        have q7 : u2.cell? ⟨g, 2 + i * 8 + 7, none⟩ = some (.int .i64 (s2.cl i).bv) := hq.2.2.2.2.2.2.2
        have f50 := hL2.frz 0 rfl (by omega) 50
        have HL3 : Hid (Lay w0 (u2.setCell ⟨g, 50, none⟩ (.slice A2 (s2.ops.length + 1) cap2)) (rowsK g gl n s' A2 cap2 R)) := by
          have h1 := co_ops A2 (s2.ops.length + 1) cap2 hL2
          have e : (s2.ops ++ [(⟨i, (s2.cl i).beg, now, (s2.cl i).wr, (s2.cl i).bv⟩ : Opr)]).length = s2.ops.length + 1 := by simp
          rw [HF.out]
          show Lay w0 _ (hdK g gl n _ A2 (s2.ops ++ [(⟨i, (s2.cl i).beg, now, (s2.cl i).wr, (s2.cl i).bv⟩ : Opr)]).length cap2 :: kpR gl n _ :: ⟨A2, 36, 5, (s2.ops ++ [(⟨i, (s2.cl i).beg, now, (s2.cl i).wr, (s2.cl i).bv⟩ : Opr)]).length, cap2, _⟩ :: R)
          rw [e]
          exact h1
        clear ho hg ha hL2 hq
        go_wp2
        refine holds ⟨q50, q1, q2, q7⟩ ?_
        refine tail_step ?_
        go_wp2
        refine holds ⟨q50, q1, q2, q7⟩ ?_
        refine tail_step ?_
        go_wp2
        refine holds ⟨q50, q1, q2, q7⟩ ?_
        refine tail_last ?_
        go_wp2
        first | go_end0 | (refine bodyPost_ret (results_none rfl _ _ _) rfl ?_)
        exact ⟨rfl, A2, cap2, HL3.out⟩
  · have HR2 : Hid (r2S i to s1 = s1) := (if_neg (fun hh => by have := hh.1; omega)).trans (if_neg (fun hh => hx hh.2))
    have hx : (s1.cl i).bs ≤ s1.S to := by omega
    have HZ : Hid (Lay w0 W (rowsK g gl n s1 A cap R)) := HW
    refine wp_text_all (by kernel_rfl) (by kernel_rfl) (by kernel_rfl) (by repeat' (first | (with_reducible apply tame_then) | (with_reducible apply tame_block) | (with_reducible apply tame_scope) | exact tame_gives | exact tame_body (fun _ _ h => ⟨_, h.1⟩))) ?_
    go_wp2
    refine headed ?_
    go_wp2
    refine wp_text_all (by kernel_rfl) (by kernel_rfl) (by kernel_rfl) (by repeat' (first | (with_reducible apply tame_then) | (with_reducible apply tame_block) | (with_reducible apply tame_scope) | exact tame_gives | exact tame_body (fun _ _ h => ⟨_, h.1⟩))) ?_
    go_wp2
    refine headed ?_
    go_wp2
    refine at_world (F := fun W' => Code.wp _ _ _ _ W') (fun W => Lay w0 W (rowsK g gl n (s1) A cap R)) (HZ.out.sim ⟨rfl, rfl, rfl, rfl⟩) ?_
    intro W2 hW2
    obtain ⟨s2, hs2⟩ : ∃ s2, s2 = s1 := ⟨_, rfl⟩
    have hp2 : (s2.cl i).part = 2 := by rw [hs2]; exact hp1
    have hm2 : (s2.cl i).many ≤ 101 := by rw [hs2]; exact hm1
    have hb2 : (s2.cl i).bs ≤ 600 := by rw [hs2]; exact hb1
    have HO2 : Hid (s2.ops.length ≤ 100) := by show s2.ops.length ≤ 100; rw [hs2]; exact HO1.out
    have HS2 : Hid (s' = r3S n i now s2) := by show s' = _; rw [hs2, ← HR2.out]; exact HS1.out
    rw [← hs2] at hW2
    clear HW HZ HR2 HS1 HO1 hS1 hb1 hm1 hp1 hs2 hx k0 k1 g0 g1
    clear a0 a1 a50 c0 c1 c2 c3 c4 c5 c6 c7 f0 f1 f2 f3 f4 f5 f6 f7 f50 ng
    have HW := Lib.hid hW2
    clear hW2
    generalize W2 = W at HW ⊢
    obtain ⟨a0, a1, a50⟩ := co_hd HW.out
    obtain ⟨c0, c1, c2, c3, c4, c5, c6, c7⟩ := co_cl HW.out (i := i) hi
    have f0 := HW.out.frz 0 rfl (by omega) (2 + i * 8)
    have f1 := HW.out.frz 0 rfl (by omega) (2 + i * 8 + 1)
    have f2 := HW.out.frz 0 rfl (by omega) (2 + i * 8 + 2)
    have f3 := HW.out.frz 0 rfl (by omega) (2 + i * 8 + 3)
    have f4 := HW.out.frz 0 rfl (by omega) (2 + i * 8 + 4)
    have f5 := HW.out.frz 0 rfl (by omega) (2 + i * 8 + 5)
    have f6 := HW.out.frz 0 rfl (by omega) (2 + i * 8 + 6)
    have f7 := HW.out.frz 0 rfl (by omega) (2 + i * 8 + 7)
    have f50 := HW.out.frz 0 rfl (by omega) 50
    have ng := HW.out.ne_ 0 1 rfl rfl (by omega)
    rw [hp2] at c0
    by_cases hmj : 2 * (s2.cl i).many ≤ n
    · have HF : Hid (s' = s2) := HS2.out.trans (if_pos hmj)
      refine wp_text_all (by kernel_rfl) (by kernel_rfl) (by kernel_rfl) (by repeat' (first | (with_reducible apply tame_then) | (with_reducible apply tame_block) | (with_reducible apply tame_scope) | exact tame_gives | exact tame_body (fun _ _ h => ⟨_, h.1⟩))) ?_
      go_wp2
      refine headed ?_
      go_wp2
      first | go_end0 | (refine bodyPost_ret (results_none rfl _ _ _) rfl ?_)
      exact ⟨rfl, A, cap, by rw [HF.out]; exact HW.out.sim ⟨rfl, rfl, rfl, rfl⟩⟩
    · have HF := Lib.hid (HS2.out.trans ((if_neg hmj).trans (if_neg (by omega))))
      have hmj : n < 2 * (s2.cl i).many := by omega
      have HZ : Hid (Lay w0 (((W.setCell ⟨g, 2 + i * 8 + 4, none⟩ (.int .u32 (0 : Nat))).setCell ⟨g, 2 + i * 8 + 5, none⟩ (.int .i64 (0 : Nat))).setCell ⟨g, 2 + i * 8 + 0, none⟩ (.int .i64 (0 : Nat))) (rowsK g gl n (setC s2 i { s2.cl i with rch := 0, many := 0, part := 0 }) A cap R)) := by
        have h1 := co_fld (i := i) 4 { s2.cl i with rch := 0 } HW.out hi (by omega) (fun k hk hne => by unfold clF; simp [hne])
        have h2 := co_fld (i := i) 5 { s2.cl i with rch := 0, many := 0 } h1 hi (by omega) (fun k hk hne => by rw [setC_self]; unfold clF; simp [hne])
        have h3 := co_fld (i := i) 0 { s2.cl i with rch := 0, many := 0, part := 0 } h2 hi (by omega) (fun k hk hne => by rw [setC_self]; unfold clF; simp [hne])
        rw [setC_setC, setC_setC] at h3
        exact h3
      refine wp_text_all (by kernel_rfl) (by kernel_rfl) (by kernel_rfl) (by repeat' (first | (with_reducible apply tame_then) | (with_reducible apply tame_block) | (with_reducible apply tame_scope) | exact tame_gives | exact tame_body (fun _ _ h => ⟨_, h.1⟩))) ?_
      go_wp2
      refine headed ?_
      go_wp2
      refine at_world (F := fun W' => Code.wp _ _ _ _ W') (fun W => Lay w0 W (rowsK g gl n (setC s2 i { s2.cl i with rch := 0, many := 0, part := 0 }) A cap R)) (HZ.out.sim ⟨rfl, rfl, rfl, rfl⟩) ?_
      intro W3 hW3
      have HW3 := Lib.hid hW3
      clear hW3 HZ
      clear a0 a1 a50 c0 c1 c2 c3 c4 c5 c6 c7 f0 f1 f2 f3 f4 f5 f6 f7 f50 ng
      obtain ⟨d0, d1, d2, d3, d4, d5, d6, d7⟩ := co_cl HW3.out hi
      obtain ⟨_, _, d50⟩ := co_hd HW3.out
      rw [setC_self] at d1 d2 d7
      have d1 : W3.cell? ⟨g, 2 + i * 8 + 1, none⟩ = some (.int .i64 ((s2.cl i).beg : Nat)) := d1
      have d2 : W3.cell? ⟨g, 2 + i * 8 + 2, none⟩ = some (.bool (s2.cl i).wr) := d2
      have d7 : W3.cell? ⟨g, 2 + i * 8 + 7, none⟩ = some (.int .i64 (s2.cl i).bv) := d7
      have d50 : W3.cell? ⟨g, 50, none⟩ = some (.slice A s2.ops.length cap) := d50
      have hgl := (HW3.out.at_ 0 rfl).2
      have HL2 := HO2.out
      clear d0 d3 d4 d5 d6
      refine wp_held_mask (fun W => W.cell? ⟨g, 50, none⟩ = some (.slice A s2.ops.length cap) ∧ W.cell? ⟨g, 2 + i * 8 + 1, none⟩ = some (.int .i64 ((s2.cl i).beg : Nat)) ∧ W.cell? ⟨g, 2 + i * 8 + 2, none⟩ = some (.bool (s2.cl i).wr) ∧ W.cell? ⟨g, 2 + i * 8 + 7, none⟩ = some (.int .i64 (s2.cl i).bv))
        [true, true, true, true, true, true, true, true, true, true, true, true, true, true, true, true, true, true, true, true, false, false, false, false, false, false] ?Ax4 (by kernel_rfl) rfl (by kernel_rfl) (by repeat' (first | (with_reducible apply tame_then) | (with_reducible apply tame_block) | (with_reducible apply tame_scope) | exact tame_gives | exact tame_body (fun _ _ h => ⟨_, h.1⟩))) ⟨d50, d1, d2, d7⟩ ?headx4 ?tailx4
      case headx4 =>
        intro W5 ⟨x0, x1, x2, x3⟩
        simp only [pick]
        go_wp2
        exact taken
      case tailx4 =>
        simp only [pick, List.map_cons, List.map_nil, Bool.not_true, Bool.not_false]
        refine tail_step ?_
        go_wp2
        refine holds ⟨d50, d1, d2, d7⟩ ?_
        refine tail_step ?_
        go_wp2
        refine holds ⟨(World.cell?_alloc_lt _ _ _ hgl).trans d50, (World.cell?_alloc_lt _ _ _ hgl).trans d1, (World.cell?_alloc_lt _ _ _ hgl).trans d2, (World.cell?_alloc_lt _ _ _ hgl).trans d7⟩ ?_
        refine tail_step ?_
        refine wpList_ap rfl (.tmp 136) (.tmp 153) _ rfl 36 iO _ 5 40 Try.underlying24 hiO hzO0 hzO1 hzO2 rfl (by omega) w0.heap.size rfl ((HW3.out.alloc _).own 2 _ rfl) rfl (m := 1) (cell_new _ _ _ _ _ rfl (opG_new s2.ops ⟨i, (s2.cl i).beg, now, (s2.cl i).wr, (s2.cl i).bv⟩))
          (fun j _ => opG_one _ _) (opG (s2.ops ++ [⟨i, (s2.cl i).beg, now, (s2.cl i).wr, (s2.cl i).bv⟩])) (fun j hj => opG_old s2.ops _ hj) (fun j hj => rfl) (s2.ops.length + 1) rfl (by unfold maxLen; show s2.ops.length + 1 ≤ _; omega) (by show (s2.ops.length + 1) * 40 ≤ _; omega) (by have := HW3.out.size; simp; omega) ?_
        intro A2 cap2 u2 ho hg ha
        have hL2 := (HW3.out.alloc _).drew.app 2 rfl ho hg ha
        have q50 : u2.cell? ⟨g, 50, none⟩ = some (.slice A s2.ops.length cap) := hL2.cellB 0 rfl 50 (by omega)
        have hq := co_cl hL2 hi
        rw [setC_self] at hq
        have q1 : u2.cell? ⟨g, 2 + i * 8 + 1, none⟩ = some (.int .i64 ((s2.cl i).beg : Nat)) := hq.2.1
        have q2 : u2.cell? ⟨g, 2 + i * 8 + 2, none⟩ = some (.bool (s2.cl i).wr) := hq.2.2.1
        have q7 : u2.cell? ⟨g, 2 + i * 8 + 7, none⟩ = some (.int .i64 (s2.cl i).bv) := hq.2.2.2.2.2.2.2
        have f50 := hL2.frz 0 rfl (by omega) 50
        have HL3 : Hid (Lay w0 (u2.setCell ⟨g, 50, none⟩ (.slice A2 (s2.ops.length + 1) cap2)) (rowsK g gl n s' A2 cap2 R)) := by
          have h1 := co_ops A2 (s2.ops.length + 1) cap2 hL2
          have e : (s2.ops ++ [(⟨i, (s2.cl i).beg, now, (s2.cl i).wr, (s2.cl i).bv⟩ : Opr)]).length = s2.ops.length + 1 := by simp
          rw [HF.out]
          show Lay w0 _ (hdK g gl n _ A2 (s2.ops ++ [(⟨i, (s2.cl i).beg, now, (s2.cl i).wr, (s2.cl i).bv⟩ : Opr)]).length cap2 :: kpR gl n _ :: ⟨A2, 36, 5, (s2.ops ++ [(⟨i, (s2.cl i).beg, now, (s2.cl i).wr, (s2.cl i).bv⟩ : Opr)]).length, cap2, _⟩ :: R)
          rw [e]
          exact h1
        clear ho hg ha hL2 hq
        go_wp2
        refine holds ⟨q50, q1, q2, q7⟩ ?_
        refine tail_step ?_
        go_wp2
        refine holds ⟨q50, q1, q2, q7⟩ ?_
        refine tail_step ?_
        go_wp2
        refine holds ⟨q50, q1, q2, q7⟩ ?_
        refine tail_last ?_
        go_wp2
        first | go_end0 | (refine bodyPost_ret (results_none rfl _ _ _) rfl ?_)
        exact ⟨rfl, A2, cap2, HL3.out⟩
end
end Go.Proofs.Ytoakgoigamigjaa
