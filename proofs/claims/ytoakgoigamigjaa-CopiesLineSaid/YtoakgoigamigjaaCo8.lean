/- The walk of do: it reaches. -/
import Derived.Test.YtoakgoigamigjaaCo4
set_option linter.unusedVariables false
set_option linter.unusedSimpArgs false
namespace Go.Proofs.Ytoakgoigamigjaa
open Go.RowKit

section
variable (g gl n : Nat) (s : CS) (A : Option Addr) (cap : Nat) (R : List LRow) (w0 w : World)
set_option maxRecDepth 100000 in
set_option maxHeartbeats 12800000 in
theorem do_reach (k f t v : Int) (now j : Nat) (hn : n ≤ 6) (hj : j ≤ 60) (hnow : now ≤ 60) (hB : WB n j s) (h : Lay w0 w (rowsK g gl n s A cap R)) (hk : k = 2) (hf : 0 ≤ f ∧ f < 6) (ht : 0 ≤ t ∧ t < n) :
    Calls Try.prog 11 #[.pointer (some ⟨g, 0, none⟩), .agg #[.int .i64 k, .int .i64 f, .int .i64 t, .int .i64 v], .int .i64 now] w fun e w' => e = .returned (.int .i64 (doS n k f t v now s).1) ∧ ∃ A' cap', Lay w0 w' (rowsK g gl n (doS n k f t v now s).2 A' cap' R) := by
  have HB := Lib.hid hB
  have HQ : Hid (Lay w0 (w.alloc (.cells #[.int .i64 k, .int .i64 f, .int .i64 t, .int .i64 v] 34)) (rowsK g gl n s A cap (blk w.heap.size 34 4 (ofL [.int .i64 k, .int .i64 f, .int .i64 t, .int .i64 v]) :: R))) := (h.newB [.int .i64 k, .int .i64 f, .int .i64 t, .int .i64 v] _ 4 rfl _ rfl).in3
  obtain ⟨r, hr⟩ : ∃ r, r = doS n k f t v now s := ⟨_, rfl⟩
  rw [← hr]
  unfold doS at hr
  have HR0 := Lib.hid hr
  clear hr hB h
  have tf : f < 0 ∨ 6 ≤ f ∨ (0 ≤ f ∧ f < 6) := by omega
  have tt : t < 0 ∨ (0 ≤ t ∧ (n : Int) ≤ t) ∨ (0 ≤ t ∧ t < n) := by omega
  subst hk
  obtain ⟨i, rfl⟩ := Int.eq_ofNat_of_zero_le hf.1
  obtain ⟨to, rfl⟩ := Int.eq_ofNat_of_zero_le ht.1
  have hi : i < 6 := by omega
  have hto : to < n := by omega
  have HR1 := Lib.hid (HR0.out.trans ((if_neg (by omega)).trans ((if_neg (by rw [client_yes hf, copied_yes ht]; simp)).trans ((if_neg (by omega)).trans (if_neg (by omega))))))
  clear HR0 tf tt
  obtain ⟨f1, f2⟩ := hf
  obtain ⟨t1, t2⟩ := ht
  have hf32 : s.fl < 4294967296 := Nat.lt_of_lt_of_le HB.out.fl (Nat.le_trans (Nat.pow_le_pow_right (by omega) hn) (by decide))
  have hr32 : (s.cl i).rch < 4294967296 := Nat.lt_of_lt_of_le (HB.out.rch i hi) (Nat.le_trans (Nat.pow_le_pow_right (by omega) hn) (by decide))
  have hb := bit_at (i := to) hf32
  have hb2 := bit_at (i := to) hr32
  by_cases hx : (s.cl i).part = 0
  · have HR := Lib.hid (HR1.out.trans (if_pos hx))
    clear HR1
    go_enter Try.func11, Try.ntmps11
    go_wp2
    refine at_lay (F := fun W' => Code.wp _ _ _ _ W') HQ.out ?_
    intro W hW
    have HW := Lib.hid hW
    clear hW
    generalize w.heap.size = qm at HW ⊢
    obtain ⟨a0, a1, a50⟩ := co_hd HW.out
    have ng := HW.out.ne_ 0 1 rfl rfl (by omega)
    have nm := HW.out.ne_ 0 3 rfl rfl (by omega)
    have m0 := HW.out.cellB 3 rfl 0 (by omega)
    have m1 := HW.out.cellB 3 rfl 1 (by omega)
    have m2 := HW.out.cellB 3 rfl 2 (by omega)
    have m3 := HW.out.cellB 3 rfl 3 (by omega)
    simp only [ofL_0, ofL_1, ofL_2, ofL_3] at m0 m1 m2 m3
    refine wp_text_all (by kernel_rfl) (by kernel_rfl) (by kernel_rfl) (by repeat' (first | (with_reducible apply tame_then) | (with_reducible apply tame_block) | (with_reducible apply tame_scope) | exact tame_gives | exact tame_body (fun _ _ h => ⟨_, h.1⟩))) ?_
    go_wp2
    refine headed ?_
    go_wp2
    obtain ⟨c0, -⟩ := co_cl HW.out hi
    rw [hx] at c0
    refine wp_text_all (by kernel_rfl) (by kernel_rfl) (by kernel_rfl) (by repeat' (first | (with_reducible apply tame_then) | (with_reducible apply tame_block) | (with_reducible apply tame_scope) | exact tame_gives | exact tame_body (fun _ _ h => ⟨_, h.1⟩))) ?_
    go_wp2
    refine headed ?_
    go_wp2
    refine wp_text_all (by kernel_rfl) (by kernel_rfl) (by kernel_rfl) (by repeat' (first | (with_reducible apply tame_then) | (with_reducible apply tame_block) | (with_reducible apply tame_scope) | exact tame_gives | exact tame_body (fun _ _ h => ⟨_, h.1⟩))) ?_
    go_wp2
    refine headed ?_
    go_wp2
    go_ret
    exact ⟨ret_int (by rw [HR.out]), A, cap, by rw [HR.out]; exact HW.out.out3.sim ⟨rfl, rfl, rfl, rfl⟩⟩
  have HR2 := Lib.hid (HR1.out.trans (if_neg hx))
  have hx : 0 < (s.cl i).part := by omega
  clear HR1
  cases hy : (s.cl i).rch.testBit to
  case true =>
    have HR := Lib.hid (HR2.out.trans (if_pos (by rw [Int.toNat_natCast, Int.toNat_natCast]; exact hy)))
    rw [hy] at hb2
    clear hy HR2
    go_enter Try.func11, Try.ntmps11
    go_wp2
    refine at_lay (F := fun W' => Code.wp _ _ _ _ W') HQ.out ?_
    intro W hW
    have HW := Lib.hid hW
    clear hW
    generalize w.heap.size = qm at HW ⊢
    obtain ⟨a0, a1, a50⟩ := co_hd HW.out
    have ng := HW.out.ne_ 0 1 rfl rfl (by omega)
    have nm := HW.out.ne_ 0 3 rfl rfl (by omega)
    have m0 := HW.out.cellB 3 rfl 0 (by omega)
    have m1 := HW.out.cellB 3 rfl 1 (by omega)
    have m2 := HW.out.cellB 3 rfl 2 (by omega)
    have m3 := HW.out.cellB 3 rfl 3 (by omega)
    simp only [ofL_0, ofL_1, ofL_2, ofL_3] at m0 m1 m2 m3
    refine wp_text_all (by kernel_rfl) (by kernel_rfl) (by kernel_rfl) (by repeat' (first | (with_reducible apply tame_then) | (with_reducible apply tame_block) | (with_reducible apply tame_scope) | exact tame_gives | exact tame_body (fun _ _ h => ⟨_, h.1⟩))) ?_
    go_wp2
    refine headed ?_
    go_wp2
    obtain ⟨c0, _, _, _, c4, -⟩ := co_cl HW.out hi
    refine wp_text_all (by kernel_rfl) (by kernel_rfl) (by kernel_rfl) (by repeat' (first | (with_reducible apply tame_then) | (with_reducible apply tame_block) | (with_reducible apply tame_scope) | exact tame_gives | exact tame_body (fun _ _ h => ⟨_, h.1⟩))) ?_
    go_wp2
    refine headed ?_
    go_wp2
    refine wp_text_all (by kernel_rfl) (by kernel_rfl) (by kernel_rfl) (by repeat' (first | (with_reducible apply tame_then) | (with_reducible apply tame_block) | (with_reducible apply tame_scope) | exact tame_gives | exact tame_body (fun _ _ h => ⟨_, h.1⟩))) ?_
    go_wp2
    refine headed ?_
    go_wp2
    refine wp_text_all (by kernel_rfl) (by kernel_rfl) (by kernel_rfl) (by repeat' (first | (with_reducible apply tame_then) | (with_reducible apply tame_block) | (with_reducible apply tame_scope) | exact tame_gives | exact tame_body (fun _ _ h => ⟨_, h.1⟩))) ?_
    go_wp2
    refine headed ?_
    go_wp2
    go_ret
    exact ⟨ret_int (by rw [HR.out]), A, cap, by rw [HR.out]; exact HW.out.out3.sim ⟨rfl, rfl, rfl, rfl⟩⟩
  have HR3 := Lib.hid (HR2.out.trans (if_neg (by rw [Int.toNat_natCast, Int.toNat_natCast, hy]; simp)))
  rw [hy] at hb2
  clear hy HR2
  cases hz : s.fl.testBit to
  case true =>
    have HR := Lib.hid (HR3.out.trans (if_pos (by rw [Int.toNat_natCast]; exact hz)))
    rw [hz] at hb
    clear hz HR3
    go_enter Try.func11, Try.ntmps11
    go_wp2
    refine at_lay (F := fun W' => Code.wp _ _ _ _ W') HQ.out ?_
    intro W hW
    have HW := Lib.hid hW
    clear hW
    generalize w.heap.size = qm at HW ⊢
    obtain ⟨a0, a1, a50⟩ := co_hd HW.out
    have ng := HW.out.ne_ 0 1 rfl rfl (by omega)
    have nm := HW.out.ne_ 0 3 rfl rfl (by omega)
    have m0 := HW.out.cellB 3 rfl 0 (by omega)
    have m1 := HW.out.cellB 3 rfl 1 (by omega)
    have m2 := HW.out.cellB 3 rfl 2 (by omega)
    have m3 := HW.out.cellB 3 rfl 3 (by omega)
    simp only [ofL_0, ofL_1, ofL_2, ofL_3] at m0 m1 m2 m3
    refine wp_text_all (by kernel_rfl) (by kernel_rfl) (by kernel_rfl) (by repeat' (first | (with_reducible apply tame_then) | (with_reducible apply tame_block) | (with_reducible apply tame_scope) | exact tame_gives | exact tame_body (fun _ _ h => ⟨_, h.1⟩))) ?_
    go_wp2
    refine headed ?_
    go_wp2
    obtain ⟨c0, _, _, _, c4, -⟩ := co_cl HW.out hi
    refine wp_text_all (by kernel_rfl) (by kernel_rfl) (by kernel_rfl) (by repeat' (first | (with_reducible apply tame_then) | (with_reducible apply tame_block) | (with_reducible apply tame_scope) | exact tame_gives | exact tame_body (fun _ _ h => ⟨_, h.1⟩))) ?_
    go_wp2
    refine headed ?_
    go_wp2
    refine wp_text_all (by kernel_rfl) (by kernel_rfl) (by kernel_rfl) (by repeat' (first | (with_reducible apply tame_then) | (with_reducible apply tame_block) | (with_reducible apply tame_scope) | exact tame_gives | exact tame_body (fun _ _ h => ⟨_, h.1⟩))) ?_
    go_wp2
    refine headed ?_
    go_wp2
    refine wp_text_all (by kernel_rfl) (by kernel_rfl) (by kernel_rfl) (by repeat' (first | (with_reducible apply tame_then) | (with_reducible apply tame_block) | (with_reducible apply tame_scope) | exact tame_gives | exact tame_body (fun _ _ h => ⟨_, h.1⟩))) ?_
    go_wp2
    refine headed ?_
    go_wp2
    refine wp_text_all (by kernel_rfl) (by kernel_rfl) (by kernel_rfl) (by repeat' (first | (with_reducible apply tame_then) | (with_reducible apply tame_block) | (with_reducible apply tame_scope) | exact tame_gives | exact tame_body (fun _ _ h => ⟨_, h.1⟩))) ?_
    go_wp2
    refine headed ?_
    go_wp2
    go_ret
    exact ⟨ret_int (by rw [HR.out]), A, cap, by rw [HR.out]; exact HW.out.out3.sim ⟨rfl, rfl, rfl, rfl⟩⟩
  have HR := Lib.hid (HR3.out.trans (if_neg (by rw [Int.toNat_natCast, hz]; simp)))
  rw [hz] at hb
  clear hz HR3
  go_enter Try.func11, Try.ntmps11
  go_wp2
  refine at_lay (F := fun W' => Code.wp _ _ _ _ W') HQ.out ?_
  intro W hW
  have HW := Lib.hid hW
  clear hW
  generalize w.heap.size = qm at HW ⊢
  obtain ⟨a0, a1, a50⟩ := co_hd HW.out
  have ng := HW.out.ne_ 0 1 rfl rfl (by omega)
  have nm := HW.out.ne_ 0 3 rfl rfl (by omega)
  have m0 := HW.out.cellB 3 rfl 0 (by omega)
  have m1 := HW.out.cellB 3 rfl 1 (by omega)
  have m2 := HW.out.cellB 3 rfl 2 (by omega)
  have m3 := HW.out.cellB 3 rfl 3 (by omega)
  simp only [ofL_0, ofL_1, ofL_2, ofL_3] at m0 m1 m2 m3
  refine wp_text_all (by kernel_rfl) (by kernel_rfl) (by kernel_rfl) (by repeat' (first | (with_reducible apply tame_then) | (with_reducible apply tame_block) | (with_reducible apply tame_scope) | exact tame_gives | exact tame_body (fun _ _ h => ⟨_, h.1⟩))) ?_
  go_wp2
  refine headed ?_
  go_wp2
  obtain ⟨c0, _, _, _, c4, -⟩ := co_cl HW.out hi
  refine wp_text_all (by kernel_rfl) (by kernel_rfl) (by kernel_rfl) (by repeat' (first | (with_reducible apply tame_then) | (with_reducible apply tame_block) | (with_reducible apply tame_scope) | exact tame_gives | exact tame_body (fun _ _ h => ⟨_, h.1⟩))) ?_
  go_wp2
  refine headed ?_
  go_wp2
  refine wp_text_all (by kernel_rfl) (by kernel_rfl) (by kernel_rfl) (by repeat' (first | (with_reducible apply tame_then) | (with_reducible apply tame_block) | (with_reducible apply tame_scope) | exact tame_gives | exact tame_body (fun _ _ h => ⟨_, h.1⟩))) ?_
  go_wp2
  refine headed ?_
  go_wp2
  refine wp_text_all (by kernel_rfl) (by kernel_rfl) (by kernel_rfl) (by repeat' (first | (with_reducible apply tame_then) | (with_reducible apply tame_block) | (with_reducible apply tame_scope) | exact tame_gives | exact tame_body (fun _ _ h => ⟨_, h.1⟩))) ?_
  go_wp2
  refine headed ?_
  go_wp2
  refine wp_text_all (by kernel_rfl) (by kernel_rfl) (by kernel_rfl) (by repeat' (first | (with_reducible apply tame_then) | (with_reducible apply tame_block) | (with_reducible apply tame_scope) | exact tame_gives | exact tame_body (fun _ _ h => ⟨_, h.1⟩))) ?_
  go_wp2
  refine headed ?_
  go_wp2_with fail
  have hpt := HB.out.part i hi
  rcases (by omega : (s.cl i).part = 1 ∨ (s.cl i).part = 2) with hp | hp
  · refine (reach1_any g gl n s A cap _ w0 _ i to now hn hi hto (by omega) (HB.out.rch i hi) (by have := HB.out.many i hi; omega) (by have := HB.out.bs i hi; omega) (fun a ha => by have := HB.out.S a ha; omega) (by have := HB.out.ops; omega) hp (by exact HW.out.sim ⟨rfl, rfl, rfl, rfl⟩)).mono ?_
    rintro e w3 ⟨rfl, A3, c3, hl3⟩
    have HL3 := Lib.hid hl3.out3
    clear hl3
    go_wp2
    go_ret
    exact ⟨ret_int (by rw [HR.out]), A3, c3, by rw [HR.out]; exact HL3.out⟩
  · refine (reach2_any g gl n s A cap _ w0 _ i to now hn hi hto (by omega) (HB.out.rch i hi) (by have := HB.out.many i hi; omega) (by have := HB.out.bs i hi; omega) (fun a ha => by have := HB.out.S a ha; omega) (by have := HB.out.ops; omega) hp (by exact HW.out.sim ⟨rfl, rfl, rfl, rfl⟩)).mono ?_
    rintro e w3 ⟨rfl, A3, c3, hl3⟩
    have HL3 := Lib.hid hl3.out3
    clear hl3
    go_wp2
    go_ret
    exact ⟨ret_int (by rw [HR.out]), A3, c3, by rw [HR.out]; exact HL3.out⟩
end
end Go.Proofs.Ytoakgoigamigjaa
