/- The walk of fork.round. -/
import Derived.Test.YtgfogcaklcnliaaFk3
set_option linter.unusedVariables false
set_option linter.unusedSimpArgs false
namespace Go.Proofs.Ytgfogcaklcnliaa
open Go.RowKit

theorem peel_small {n : Nat} (h6 : n ≤ 6) (l : Lk) (r : Nat) : peel n l r < 64 := six_small h6 (peel_lt n l r)
theorem keep_at {l : Lk} {S j : Nat} (hj : j < (keepL l S).length) : (f1 (keepL l S) j, f2 (keepL l S) j) ∈ l := (keep_mem.1 (f_mem hj)).1
set_option maxHeartbeats 2000000 in
theorem round_any (n : Nat) (l : Lk) (A : Option Addr) (m cap B : Nat) (w : World) (hok : LOk n l) (hm : m = l.length) (hn : A = none → m = 0) (hB : B ≤ w.heap.size) (hr : Rd w B A (m * 2) (lkR l)) :
    Calls Try.prog 18 #[.int .i64 (n : Nat), .slice A m cap] w (Gives fun v w' => v = .bool (isRound n l) ∧ Below w.heap.size w w') := by
  have h6 := hok.h6
  have hm15 : m ≤ 15 := by rw [hm]; exact hok.hm
  have HR := Lib.hid (hr.more hB); clear hr
  have HOK := Lib.hid hok
  have HM := Lib.hid hm
  have HN := Lib.hid hn
  have HLT : Hid (∀ j, j < m → f1 l j < 32 ∧ f2 l j < 32) := Lib.hid fun j hj => by
    have := hok.at_ (j := j) (by omega)
    omega
  clear hok hm hn
  go_enter Try.func18, Try.ntmps18
  go_wp2
  go_loopw [8] (fun i wr => ∃ r : Nat, i = .int .i64 (r : Nat) ∧ r ≤ n ∧ Hid (Lay w wr [outB w.heap.size (peel n l r)])) (fun i _ => n - (intOf i).toNat)
  case atStart =>
    refine ⟨0, rfl, by omega, Lib.hid ?_⟩
    exact (Lay.nil w).newB [.int .u32 ((0 : Nat) : Int)] 23 1 rfl _ rfl
  case round =>
    obtain ⟨r, rfl, hrn, HL⟩ := hrel
    have hz := HL.out.size
    obtain ⟨S, hS⟩ : ∃ S, peel n l r = S := ⟨_, rfl⟩
    have HSS := Lib.hid hS
    have HS6 := Lib.hid (peel_small h6 l r)
    rw [hS] at HL HS6
    clear hS
    have hcg := (HL.out.at_ 0 rfl).2
    by_cases hlt : r < n
    · go_wp2_with fail
      refine (clone_any l A m cap _ wr HM.out hm15 HN.out (Nat.le_refl _) ((HR.out.below HL.out.bel).more hz)).mono ?_
      rintro e w1 ⟨v, rfl, A1, c1, rfl, hL1⟩
      have HL1 := Lib.hid (HL.out.join hL1)
      clear hL1
      unfold lkA at HL1
      rw [← HM.out] at HL1
      go_wp2_with fail
      refine (delF_any l S A1 m c1 w.heap.size [] w w1 HM.out hm15 HLT.out (by have := HS6.out; omega) HL1.out).mono ?_
      rintro e w2 ⟨v, rfl, i, F, rfl, hi, him, hL2, hF⟩
      have HL2 := Lib.hid hL2
      have HI := Lib.hid hi
      have hz2 := hL2.size
      have hrd : Rd w2 w2.heap.size A1 (i * 2) (lkR (keepL l S)) := by
        have h : Rd w2 w2.heap.size A1 (m * 2) F := hL2.rd 0 rfl
        exact (h.less (by omega)).congr hF
      have HRD := Lib.hid hrd
      clear hrd hL2 hF hi HL1
      go_wp2_with fail
      refine (low_any n (keepL l S) A1 i c1 _ w2 h6 HI.out (by omega) (fun j hj => (HOK.out.rg _ (keep_at (by rw [← HI.out]; exact hj))).1) (Nat.le_refl _) HRD.out).mono ?_
      rintro e w3 ⟨v, rfl, rfl, hb3⟩
      have HL3 : Hid (Lay w w3 [outB w.heap.size S]) := Lib.hid (HL2.out.keep hb3).tail
      clear hb3 HRD HI HL2
      have hcg3 := (HL3.out.at_ 0 rfl).2
      have hcell : w3.cell? ⟨w.heap.size, 0, none⟩ = some (.int .u32 (S : Nat)) := HL3.out.cellB 0 rfl 0 (by omega)
      have hfz := HL3.out.frz 0 rfl (by omega)
      go_wp2
      go_roundw
      case rel =>
        refine ⟨r + 1, by go_num, by omega, Lib.hid ?_⟩
        have h := HL3.out.fld 0 0 (.int .u32 (low n (keepL l S) : Nat)) rfl (by omega) (Nat.succ_pos _)
        rw [peel, HSS.out]
        exact h
      case measure => simp [intOf]; omega
    · obtain rfl : r = n := by omega
      have hcell : wr.cell? ⟨w.heap.size, 0, none⟩ = some (.int .u32 (S : Nat)) := HL.out.cellB 0 rfl 0 (by omega)
      have HF := full_num h6
      obtain ⟨b, hb⟩ : ∃ b, ((S : Int) != (2 ^ r % 4294967296 - 1) % 4294967296) = b := ⟨_, rfl⟩
      have HB : Hid (isRound r l = b) := Lib.hid (by
        rw [← hb, HF, isRound, HSS.out]
        rw [Bool.eq_iff_iff]
        simp only [bne_iff_ne, ne_eq]
        exact not_congr Int.ofNat_inj.symm)
      have hb2 : ((S : Int) != (2 ^ r - 1) % 4294967296) = b := by
        rw [← hb, Int.emod_sub_emod]
      clear HF
      cases b
      all_goals
        go_wp2
        refine wp_text_all (by kernel_rfl) (by kernel_rfl) (by kernel_rfl) (by repeat' (first | (with_reducible apply tame_then) | (with_reducible apply tame_block) | (with_reducible apply tame_scope) | exact tame_gives | exact tame_body (fun _ _ h => ⟨_, h.1⟩))) ?_
        go_wp2
        refine headed ?_
        go_wp2
        go_ret
        exact ⟨_, rfl, by rw [HB.out]; rfl, HL.out.bel.drew⟩
end Go.Proofs.Ytgfogcaklcnliaa
