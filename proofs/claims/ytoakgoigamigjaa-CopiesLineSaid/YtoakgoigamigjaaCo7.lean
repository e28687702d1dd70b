/- The walk of do: it fails, it begins. -/
import Derived.Test.YtoakgoigamigjaaCo4
set_option linter.unusedVariables false
set_option linter.unusedSimpArgs false
namespace Go.Proofs.Ytoakgoigamigjaa
open Go.RowKit

theorem open_set {g gl n : Nat} {s : CS} {A : Option Addr} {m cap : Nat} {L : List LRow} {w0 w : World} (h : Lay w0 w (hdK g gl n s A m cap :: kpR gl n s :: L)) {i : Nat} (hi : i < 6) (c : Cl) :
    Lay w0 ((((((((w.setCell ⟨g, 2 + i * 8, none⟩ (.int .i64 (c.part : Nat))).setCell ⟨g, 2 + i * 8 + 1, none⟩ (.int .i64 (c.beg : Nat))).setCell ⟨g, 2 + i * 8 + 2, none⟩ (.bool c.wr)).setCell ⟨g, 2 + i * 8 + 3, none⟩ (.int .i64 c.val)).setCell ⟨g, 2 + i * 8 + 4, none⟩ (.int .u32 (c.rch : Nat))).setCell ⟨g, 2 + i * 8 + 5, none⟩ (.int .i64 (c.many : Nat))).setCell ⟨g, 2 + i * 8 + 6, none⟩ (.int .i64 (c.bs : Nat))).setCell ⟨g, 2 + i * 8 + 7, none⟩ (.int .i64 c.bv))
      (hdK g gl n (setC s i c) A m cap :: kpR gl n (setC s i c) :: L) := by
  have h0 := co_fld (i := i) 0 { s.cl i with part := c.part } h hi (by omega) (fun k hk hne => by unfold clF; simp [hne])
  have h1 := co_fld (i := i) 1 { s.cl i with part := c.part, beg := c.beg } h0 hi (by omega) (fun k hk hne => by rw [setC_self]; unfold clF; simp [hne])
  have h2 := co_fld (i := i) 2 { s.cl i with part := c.part, beg := c.beg, wr := c.wr } h1 hi (by omega) (fun k hk hne => by rw [setC_self]; unfold clF; simp [hne])
  have h3 := co_fld (i := i) 3 { s.cl i with part := c.part, beg := c.beg, wr := c.wr, val := c.val } h2 hi (by omega) (fun k hk hne => by rw [setC_self]; unfold clF; simp [hne])
  have h4 := co_fld (i := i) 4 { s.cl i with part := c.part, beg := c.beg, wr := c.wr, val := c.val, rch := c.rch } h3 hi (by omega) (fun k hk hne => by rw [setC_self]; unfold clF; simp [hne])
  have h5 := co_fld (i := i) 5 { s.cl i with part := c.part, beg := c.beg, wr := c.wr, val := c.val, rch := c.rch, many := c.many } h4 hi (by omega) (fun k hk hne => by rw [setC_self]; unfold clF; simp [hne])
  have h6 := co_fld (i := i) 6 { s.cl i with part := c.part, beg := c.beg, wr := c.wr, val := c.val, rch := c.rch, many := c.many, bs := c.bs } h5 hi (by omega) (fun k hk hne => by rw [setC_self]; unfold clF; simp [hne])
  have h7 := co_fld (i := i) 7 c h6 hi (by omega) (fun k hk hne => by rw [setC_self]; refine clF_bv ?_ ?_ ?_ ?_ ?_ ?_ ?_ hk hne <;> rfl)
  simp only [setC_setC] at h7
  exact h7
section
variable (g gl n : Nat) (s : CS) (A : Option Addr) (cap : Nat) (R : List LRow) (w0 w : World)
set_option maxRecDepth 100000 in
set_option maxHeartbeats 12800000 in
theorem do_fail (k f t v : Int) (now j : Nat) (hn : n ≤ 6) (hj : j ≤ 60) (hnow : now ≤ 60) (hB : WB n j s) (h : Lay w0 w (rowsK g gl n s A cap R)) (hk : k = 3) (ht : 0 ≤ t ∧ t < n) :
    Calls Try.prog 11 #[.pointer (some ⟨g, 0, none⟩), .agg #[.int .i64 k, .int .i64 f, .int .i64 t, .int .i64 v], .int .i64 now] w fun e w' => e = .returned (.int .i64 (doS n k f t v now s).1) ∧ ∃ A' cap', Lay w0 w' (rowsK g gl n (doS n k f t v now s).2 A' cap' R) := by
  have HB := Lib.hid hB
  have HQ : Hid (Lay w0 (w.alloc (.cells #[.int .i64 k, .int .i64 f, .int .i64 t, .int .i64 v] 34)) (rowsK g gl n s A cap (blk w.heap.size 34 4 (ofL [.int .i64 k, .int .i64 f, .int .i64 t, .int .i64 v]) :: R))) := (h.newB [.int .i64 k, .int .i64 f, .int .i64 t, .int .i64 v] _ 4 rfl _ rfl).in3
  obtain ⟨r, hr⟩ : ∃ r, r = doS n k f t v now s := ⟨_, rfl⟩
  rw [← hr]
  unfold doS at hr
  have HR0 := Lib.hid hr
  clear hr hB h
  have tf : f < 0 ∨ 6 ≤ f ∨ (0 ≤ f ∧ f < 6) := by omega
  have tt : t < 0 ∨ (0 ≤ t ∧ (n : Int) ≤ t) ∨ (0 ≤ t ∧ t < n) := by omega
  subst hk
  obtain ⟨to, rfl⟩ := Int.eq_ofNat_of_zero_le ht.1
  have hto : to < n := by omega
  have HR1 := Lib.hid (HR0.out.trans ((if_neg (by omega)).trans ((if_neg (by rw [copied_yes ht]; simp)).trans (if_pos rfl))))
  have hf32 : s.fl < 4294967296 := Nat.lt_of_lt_of_le HB.out.fl (Nat.le_trans (Nat.pow_le_pow_right (by omega) hn) (by decide))
  have hb := bit_at (i := to) hf32
  have hor := or_pow (m := to) hf32 (by omega)
  clear HR0 tt
  obtain ⟨t1, t2⟩ := ht
  cases hx : s.fl.testBit to
  · have HR := Lib.hid (HR1.out.trans (if_neg (by rw [Int.toNat_natCast, hx]; simp)))
    rw [hx] at hb
    clear hx HR1
    rcases tf with tf | tf | ⟨tf, tf2⟩
    all_goals
      go_enter Try.func11, Try.ntmps11
      go_wp2
      refine at_lay (F := fun W' => Code.wp _ _ _ _ W') HQ.out ?_
      intro W hW
      have HW := Lib.hid hW
      clear hW
      generalize w.heap.size = qm at HW ⊢
      obtain ⟨a0, a1, a50⟩ := co_hd HW.out
      have ng := HW.out.ne_ 0 1 rfl rfl (by omega)
      have nm := HW.out.ne_ 0 3 rfl rfl (by omega)
      have m0 := HW.out.cellB 3 rfl 0 (by omega)
      have m1 := HW.out.cellB 3 rfl 1 (by omega)
      have m2 := HW.out.cellB 3 rfl 2 (by omega)
      have m3 := HW.out.cellB 3 rfl 3 (by omega)
      simp only [ofL_0, ofL_1, ofL_2, ofL_3] at m0 m1 m2 m3
      refine wp_text_all (by kernel_rfl) (by kernel_rfl) (by kernel_rfl) (by repeat' (first | (with_reducible apply tame_then) | (with_reducible apply tame_block) | (with_reducible apply tame_scope) | exact tame_gives | exact tame_body (fun _ _ h => ⟨_, h.1⟩))) ?_
      go_wp2
      refine headed ?_
      go_wp2
      have HZ : Hid (Lay w0 (W.setCell ⟨g, 1, none⟩ (.int .u32 (s.fl ||| 2 ^ to : Nat))) _) := co_fl (s.fl ||| 2 ^ to) HW.out
      have f1 := HW.out.frz 0 rfl (by omega) 1
      refine wp_text_all (by kernel_rfl) (by kernel_rfl) (by kernel_rfl) (by repeat' (first | (with_reducible apply tame_then) | (with_reducible apply tame_block) | (with_reducible apply tame_scope) | exact tame_gives | exact tame_body (fun _ _ h => ⟨_, h.1⟩))) ?_
      go_wp2
      refine headed ?_
      go_wp2
      refine wp_text 10 (by kernel_rfl) (by kernel_rfl) (by kernel_rfl) (by repeat' (first | (with_reducible apply tame_then) | (with_reducible apply tame_block) | (with_reducible apply tame_scope) | exact tame_gives | exact tame_body (fun _ _ h => ⟨_, h.1⟩))) ?_
      simp only [List.take_succ_cons, List.take_zero, List.drop_succ_cons, List.drop_zero]
      go_wp2
      refine headed ?_
      go_wp2
      go_ret
      exact ⟨ret_int (by rw [HR.out]), A, cap, by rw [HR.out]; exact HZ.out.out3.sim ⟨rfl, rfl, rfl, rfl⟩⟩
  · have HR := Lib.hid (HR1.out.trans (if_pos (by rw [Int.toNat_natCast, hx])))
    rw [hx] at hb
    clear hx HR1
    rcases tf with tf | tf | ⟨tf, tf2⟩
    all_goals
      go_enter Try.func11, Try.ntmps11
      go_wp2
      refine at_lay (F := fun W' => Code.wp _ _ _ _ W') HQ.out ?_
      intro W hW
      have HW := Lib.hid hW
      clear hW
      generalize w.heap.size = qm at HW ⊢
      obtain ⟨a0, a1, a50⟩ := co_hd HW.out
      have ng := HW.out.ne_ 0 1 rfl rfl (by omega)
      have nm := HW.out.ne_ 0 3 rfl rfl (by omega)
      have m0 := HW.out.cellB 3 rfl 0 (by omega)
      have m1 := HW.out.cellB 3 rfl 1 (by omega)
      have m2 := HW.out.cellB 3 rfl 2 (by omega)
      have m3 := HW.out.cellB 3 rfl 3 (by omega)
      simp only [ofL_0, ofL_1, ofL_2, ofL_3] at m0 m1 m2 m3
      refine wp_text_all (by kernel_rfl) (by kernel_rfl) (by kernel_rfl) (by repeat' (first | (with_reducible apply tame_then) | (with_reducible apply tame_block) | (with_reducible apply tame_scope) | exact tame_gives | exact tame_body (fun _ _ h => ⟨_, h.1⟩))) ?_
      go_wp2
      refine headed ?_
      go_wp2
      refine wp_text_all (by kernel_rfl) (by kernel_rfl) (by kernel_rfl) (by repeat' (first | (with_reducible apply tame_then) | (with_reducible apply tame_block) | (with_reducible apply tame_scope) | exact tame_gives | exact tame_body (fun _ _ h => ⟨_, h.1⟩))) ?_
      go_wp2
      refine headed ?_
      go_wp2
      go_ret
      exact ⟨ret_int (by rw [HR.out]), A, cap, by rw [HR.out]; exact HW.out.out3.sim ⟨rfl, rfl, rfl, rfl⟩⟩
set_option maxRecDepth 100000 in
set_option maxHeartbeats 12800000 in
theorem do_open (k f t v : Int) (now j : Nat) (hn : n ≤ 6) (hj : j ≤ 60) (hnow : now ≤ 60) (hB : WB n j s) (h : Lay w0 w (rowsK g gl n s A cap R)) (hk : k = 1) (hf : 0 ≤ f ∧ f < 6) :
    Calls Try.prog 11 #[.pointer (some ⟨g, 0, none⟩), .agg #[.int .i64 k, .int .i64 f, .int .i64 t, .int .i64 v], .int .i64 now] w fun e w' => e = .returned (.int .i64 (doS n k f t v now s).1) ∧ ∃ A' cap', Lay w0 w' (rowsK g gl n (doS n k f t v now s).2 A' cap' R) := by
  have HB := Lib.hid hB
  have HQ : Hid (Lay w0 (w.alloc (.cells #[.int .i64 k, .int .i64 f, .int .i64 t, .int .i64 v] 34)) (rowsK g gl n s A cap (blk w.heap.size 34 4 (ofL [.int .i64 k, .int .i64 f, .int .i64 t, .int .i64 v]) :: R))) := (h.newB [.int .i64 k, .int .i64 f, .int .i64 t, .int .i64 v] _ 4 rfl _ rfl).in3
  obtain ⟨r, hr⟩ : ∃ r, r = doS n k f t v now s := ⟨_, rfl⟩
  rw [← hr]
  unfold doS at hr
  have HR0 := Lib.hid hr
  clear hr hB h
  have tf : f < 0 ∨ 6 ≤ f ∨ (0 ≤ f ∧ f < 6) := by omega
  have tt : t < 0 ∨ (0 ≤ t ∧ (n : Int) ≤ t) ∨ (0 ≤ t ∧ t < n) := by omega
  subst hk
  obtain ⟨i, rfl⟩ := Int.eq_ofNat_of_zero_le hf.1
  have hi : i < 6 := by omega
  have HR1 := Lib.hid (HR0.out.trans ((if_neg (by omega)).trans ((if_neg (by rw [client_yes hf]; simp)).trans ((if_neg (by omega)).trans (if_pos rfl)))))
  clear HR0 tf
  obtain ⟨f1, f2⟩ := hf
  by_cases hx : 0 < (s.cl i).part
  · have HR := Lib.hid (HR1.out.trans (if_pos hx))
    clear HR1
    rcases tt with tt | ⟨tt, tt2⟩ | ⟨tt, tt2⟩
    all_goals
      first
        | (have td : decide (t < (n : Int)) = false := decide_eq_false (by omega))
        | (have td : decide (t < (n : Int)) = true := decide_eq_true (by omega))
      go_enter Try.func11, Try.ntmps11
      go_wp2
      refine at_lay (F := fun W' => Code.wp _ _ _ _ W') HQ.out ?_
      intro W hW
      have HW := Lib.hid hW
      clear hW
      generalize w.heap.size = qm at HW ⊢
      obtain ⟨a0, a1, a50⟩ := co_hd HW.out
      have ng := HW.out.ne_ 0 1 rfl rfl (by omega)
      have nm := HW.out.ne_ 0 3 rfl rfl (by omega)
      have m0 := HW.out.cellB 3 rfl 0 (by omega)
      have m1 := HW.out.cellB 3 rfl 1 (by omega)
      have m2 := HW.out.cellB 3 rfl 2 (by omega)
      have m3 := HW.out.cellB 3 rfl 3 (by omega)
      simp only [ofL_0, ofL_1, ofL_2, ofL_3] at m0 m1 m2 m3
      refine wp_text_all (by kernel_rfl) (by kernel_rfl) (by kernel_rfl) (by repeat' (first | (with_reducible apply tame_then) | (with_reducible apply tame_block) | (with_reducible apply tame_scope) | exact tame_gives | exact tame_body (fun _ _ h => ⟨_, h.1⟩))) ?_
      go_wp2
      refine headed ?_
      go_wp2
      obtain ⟨c0, -⟩ := co_cl HW.out hi
      refine wp_text_all (by kernel_rfl) (by kernel_rfl) (by kernel_rfl) (by repeat' (first | (with_reducible apply tame_then) | (with_reducible apply tame_block) | (with_reducible apply tame_scope) | exact tame_gives | exact tame_body (fun _ _ h => ⟨_, h.1⟩))) ?_
      go_wp2
      refine headed ?_
      go_wp2
      refine wp_text_all (by kernel_rfl) (by kernel_rfl) (by kernel_rfl) (by repeat' (first | (with_reducible apply tame_then) | (with_reducible apply tame_block) | (with_reducible apply tame_scope) | exact tame_gives | exact tame_body (fun _ _ h => ⟨_, h.1⟩))) ?_
      go_wp2
      refine headed ?_
      go_wp2
      go_ret
      exact ⟨ret_int (by rw [HR.out]), A, cap, by rw [HR.out]; exact HW.out.out3.sim ⟨rfl, rfl, rfl, rfl⟩⟩
  · have HR := Lib.hid (HR1.out.trans (if_neg hx))
    have hx : (s.cl i).part = 0 := by omega
    clear HR1
    rcases tt with tt | ⟨tt, tt2⟩ | ⟨tt, tt2⟩
    all_goals
      first
        | (have td : decide (t < (n : Int)) = false := decide_eq_false (by omega))
        | (have td : decide (t < (n : Int)) = true := decide_eq_true (by omega))
      go_enter Try.func11, Try.ntmps11
      go_wp2
      refine at_lay (F := fun W' => Code.wp _ _ _ _ W') HQ.out ?_
      intro W hW
      have HW := Lib.hid hW
      clear hW
      generalize w.heap.size = qm at HW ⊢
      obtain ⟨a0, a1, a50⟩ := co_hd HW.out
      have ng := HW.out.ne_ 0 1 rfl rfl (by omega)
      have nm := HW.out.ne_ 0 3 rfl rfl (by omega)
      have m0 := HW.out.cellB 3 rfl 0 (by omega)
      have m1 := HW.out.cellB 3 rfl 1 (by omega)
      have m2 := HW.out.cellB 3 rfl 2 (by omega)
      have m3 := HW.out.cellB 3 rfl 3 (by omega)
      simp only [ofL_0, ofL_1, ofL_2, ofL_3] at m0 m1 m2 m3
      refine wp_text_all (by kernel_rfl) (by kernel_rfl) (by kernel_rfl) (by repeat' (first | (with_reducible apply tame_then) | (with_reducible apply tame_block) | (with_reducible apply tame_scope) | exact tame_gives | exact tame_body (fun _ _ h => ⟨_, h.1⟩))) ?_
      go_wp2
      refine headed ?_
      go_wp2
      obtain ⟨c0, -⟩ := co_cl HW.out hi
      rw [hx] at c0
      refine wp_text_all (by kernel_rfl) (by kernel_rfl) (by kernel_rfl) (by repeat' (first | (with_reducible apply tame_then) | (with_reducible apply tame_block) | (with_reducible apply tame_scope) | exact tame_gives | exact tame_body (fun _ _ h => ⟨_, h.1⟩))) ?_
      go_wp2
      refine headed ?_
      go_wp2
      refine wp_text_all (by kernel_rfl) (by kernel_rfl) (by kernel_rfl) (by repeat' (first | (with_reducible apply tame_then) | (with_reducible apply tame_block) | (with_reducible apply tame_scope) | exact tame_gives | exact tame_body (fun _ _ h => ⟨_, h.1⟩))) ?_
      go_wp2
      refine headed ?_
      go_wp2_with fail
      refine (fresh_any 1 i t v now _).mono ?_
      rintro e w1 ⟨u, rfl, gx, rfl, hl⟩
      have HL1 := Lib.hid (HW.out.drew.drew.drew.join hl).in3
      clear hl c0 a0 a1 a50 ng nm m0 m1 m2 m3
      have q0 := HL1.out.cellB 3 rfl 0 (by omega)
      have q1 := HL1.out.cellB 3 rfl 1 (by omega)
      have q2 := HL1.out.cellB 3 rfl 2 (by omega)
      have q3 := HL1.out.cellB 3 rfl 3 (by omega)
      have q4 := HL1.out.cellB 3 rfl 4 (by omega)
      have q5 := HL1.out.cellB 3 rfl 5 (by omega)
      have q6 := HL1.out.cellB 3 rfl 6 (by omega)
      have q7 := HL1.out.cellB 3 rfl 7 (by omega)
      simp only [clL, ofL_0, ofL_1, ofL_2, ofL_3, ofL_4, ofL_5, ofL_6, ofL_7] at q0 q1 q2 q3 q4 q5 q6 q7
      have HZ := Lib.hid (open_set HL1.out hi (openC now v))
      obtain ⟨k0, k1, k2, k3, k4, k5, k6, k7⟩ := co_cl HL1.out hi
      generalize openC now v = c at q0 q1 q2 q3 q4 q5 q6 q7 HZ HR
      have f0 := HL1.out.frz 0 rfl (by omega) (2 + i * 8)
      have f1 := HL1.out.frz 0 rfl (by omega) (2 + i * 8 + 1)
      have f2 := HL1.out.frz 0 rfl (by omega) (2 + i * 8 + 2)
      have f3 := HL1.out.frz 0 rfl (by omega) (2 + i * 8 + 3)
      have f4 := HL1.out.frz 0 rfl (by omega) (2 + i * 8 + 4)
      have f5 := HL1.out.frz 0 rfl (by omega) (2 + i * 8 + 5)
      have f6 := HL1.out.frz 0 rfl (by omega) (2 + i * 8 + 6)
      have f7 := HL1.out.frz 0 rfl (by omega) (2 + i * 8 + 7)
      go_wp2
      go_ret
      exact ⟨ret_int (by rw [HR.out]), A, cap, by rw [HR.out]; exact HZ.out.out3.out3⟩
end
end Go.Proofs.Ytoakgoigamigjaa
