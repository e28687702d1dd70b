/- The walks of believes and of general.Play. -/
import Derived.Test.YtjdibhablkhjnaaGen1
set_option linter.unusedVariables false
set_option linter.unusedSimpArgs false
namespace Go.Proofs.Ytjdibhablkhjnaa
open Go.RowKit

set_option maxRecDepth 100000 in
set_option maxHeartbeats 3200000 in
theorem believes_any (c : Camp) (hc : CampOk c) (A : Option Addr) (cap B gc : Nat) : ∀ (k : Nat) (p : List Nat) (gp i : Nat) (w : World), PathOk c.n p → p.length + k = c.d + 1 → i < c.n → CampAt w gc c A cap → PathAt w p gp → Rd w B A c.nl (fun j => .bool (c.lies j)) → B ≤ w.heap.size →
    Calls Try.prog 8 #[.pointer (some ⟨gc, 0, none⟩), .pointer (some ⟨gp, 0, none⟩), .int .i64 i] w fun e w' => e = .returned (.bool (bel c k p i)) ∧ Below w.heap.size w w' := by
  intro k
  induction k with
  | zero =>
    intro p gp i w hp hl hi hcamp hpath hlies hB
    rcases p with _ | ⟨q, p⟩
    · exact hpath.elim
    have HC := Lib.hid hcamp
    have HP := Lib.hid hpath
    have HR := Lib.hid hlies
    have HK := Lib.hid hp
    have HO := Lib.hid hc
    have h7 := hc.n.2
    have hd2 := hc.d
    have hlen : p.length ≤ 2 := by have : p.length + 1 + 0 = c.d + 1 := hl; omega
    have HT : Hid (bel c 0 (q :: p) i = toldB c (q :: p) i) := rfl
    obtain ⟨c0, c1, c2, c3, c4⟩ := hcamp.cells
    obtain ⟨fr, hfr, p0, p1, p2, p3, p4⟩ := path_cells hpath
    have hs : (((p.length + 1 : Nat) : Int) == (c.d : Int) + 1) = true := beq_iff_eq.2 (by have : p.length + 1 + 0 = c.d + 1 := hl; omega)
    clear hfr hp hc hcamp hpath hlies hl c0 c2 c3 c4 p0 p1 p3 p4
    go_enter Try.func8, Try.ntmps8
    go_wp2_with fail
    refine (told_any c HO.out A cap B gc (q :: p) gp i w HK.out (by simp; omega) (by omega) HC.out HP.out HR.out).mono ?_
    rintro e w1 ⟨rfl, hs1⟩
    have HS1 := Lib.hid hs1
    have c1' := (cell_sim hs1 _).trans c1
    have p2' := (cell_sim hs1 _).trans p2
    clear hs1 c1 p2
    go_wp2
    refine wp_text_all (by kernel_rfl) (by kernel_rfl) (by kernel_rfl) (by repeat' (first | (with_reducible apply tame_then) | (with_reducible apply tame_block) | (with_reducible apply tame_scope) | exact tame_gives | exact tame_body (fun _ _ h => ⟨_, h.1⟩))) ?_
    go_wp2
    refine headed ?_
    go_wp2
    go_ret
    exact ⟨ret_bool HT.out.symm, below_sim (Below.refl _ _) HS1.out⟩
  | succ k ih =>
    intro p gp i w hp hl hi hcamp hpath hlies hB
    rcases p with _ | ⟨q, p⟩
    · exact hpath.elim
    have HI := Lib.hid ih; clear ih
    have HC := Lib.hid hcamp
    have HP := Lib.hid hpath
    have HR := Lib.hid hlies
    have HK := Lib.hid hp
    have HO := Lib.hid hc
    have h7 := hc.n.2
    have hd2 := hc.d
    have hl' : p.length + 1 + (k + 1) = c.d + 1 := hl
    have hlen : p.length ≤ 2 := by omega
    have HLE := Lib.hid hl'
    have HT : Hid (bel c (k + 1) (q :: p) i = decide (0 < sumTo (fun j => bel c k (j :: q :: p) i) (skipB (q :: p) i) (sg (toldB c (q :: p) i)) c.n)) := rfl
    obtain ⟨c0, c1, c2, c3, c4⟩ := hcamp.cells
    obtain ⟨fr, hfr, p0, p1, p2, p3, p4⟩ := path_cells hpath
    have hs : (((p.length + 1 : Nat) : Int) == (c.d : Int) + 1) = false := beq_eq_false_iff_ne.2 (by omega)
    have hs' : ((p.length : Int) + 1 == (c.d : Int) + 1) = false := beq_eq_false_iff_ne.2 (by omega)
    have hs32 : pset (q :: p) < 4294967296 := Nat.lt_of_lt_of_le (pset_lt hp) (Nat.le_trans (Nat.pow_le_pow_right (by omega) h7) (by decide))
    have HS32 := Lib.hid hs32
    clear hfr hp hc hcamp hpath hlies hl hl' c2 c3 c4 p1 p3 p4 hs32
    obtain ⟨b0, hb0⟩ : ∃ b0, toldB c (q :: p) i = b0 := ⟨_, rfl⟩
    rw [hb0] at HT
    have HB0 := Lib.hid hb0
    clear hb0
    obtain ⟨S, hS⟩ : ∃ S : Nat → Int, S = sumTo (fun j => bel c k (j :: q :: p) i) (skipB (q :: p) i) (sg b0) := ⟨_, rfl⟩
    rw [← hS] at HT
    have HS0 : Hid (S 0 = sg b0) := by show _ = _; rw [hS]; rfl
    have HSS : Hid (∀ j, S (j + 1) = if skipB (q :: p) i j then S j else S j + sg (bel c k (j :: q :: p) i)) := by show ∀ _, _; intro j; rw [hS]; rfl
    have HSA : Hid (∀ j : Nat, -1 - (j : Int) ≤ S j ∧ S j ≤ 1 + j) := by show ∀ _, _; intro j; rw [hS]; exact sumTo_abs _ _ _ (by rcases sg_cases b0 with h | h <;> omega) j
    clear hS
    go_enter Try.func8, Try.ntmps8
    go_wp2_with fail
    refine (told_any c HO.out A cap B gc (q :: p) gp i w HK.out (by simp; omega) (by omega) HC.out HP.out HR.out).mono ?_
    rintro e w1 ⟨rfl, hs1⟩
    rw [HB0.out]
    have HS1 := Lib.hid hs1
    have c0' := (cell_sim hs1 _).trans c0
    have c1' := (cell_sim hs1 _).trans c1
    have p2' := (cell_sim hs1 _).trans p2
    have hz1 : w1.heap.size = w.heap.size := by rw [hs1.1]
    have HZ1 := Lib.hid hz1
    clear hs1 c0 c1 p2 p0 hz1
    cases b0
    all_goals
      go_wp2
      refine wp_text_all (by kernel_rfl) (by kernel_rfl) (by kernel_rfl) (by repeat' (first | (with_reducible apply tame_then) | (with_reducible apply tame_block) | (with_reducible apply tame_scope) | exact tame_gives | exact tame_body (fun _ _ h => ⟨_, h.1⟩))) ?_
      go_wp2
      refine headed ?_
      go_wp2
      clear c0' c1' p2'
      go_loopw [8, 30] (fun s i wr => ∃ j : Nat, j ≤ c.n ∧ i = .int .i64 j ∧ s = .int .i64 (S j) ∧ Hid (Below w.heap.size w wr)) (fun _ i _ => c.n - (intOf i).toNat)
      case atStart => exact ⟨0, by omega, rfl, by rw [HS0.out]; rfl, below_sim (below_sim (Below.refl _ _) HS1.out) ⟨rfl, rfl, rfl, rfl⟩⟩
      case round =>
        obtain ⟨j, hj, rfl, rfl, HW⟩ := hrel
        have hSA := HSA.out j
        by_cases hlt : j < c.n
        · have HCr := Lib.hid (HC.out.keep (w' := wr) fun k hk => HW.out.block k hk)
          have HPr := Lib.hid (HP.out.keep (w' := wr) fun k hk => HW.out.block k hk)
          have HRr := Lib.hid (HR.out.below (HW.out.mono (by exact hB)))
          obtain ⟨fr, _, p0, _, _, _, _⟩ := path_cells HPr.out
          have hb := bit_at (i := j) HS32.out
          by_cases hji : j = i
          · have HN : Hid (S (j + 1) = S j) := by show _ = _; rw [HSS.out, if_pos]; simp [skipB, hji]
            have hji' : ((j : Int) == (i : Int)) = true := by simp [hji]
            clear hji hb
            go_wp2
            go_roundw
            case rel => exact ⟨j + 1, by omega, by go_num, by rw [HN.out], HW⟩
            case measure => simp [intOf]; omega
          · have hji' : ((j : Int) == (i : Int)) = false := beq_eq_false_iff_ne.2 (by omega)
            cases hbit : (pset (q :: p)).testBit j
            · rw [hbit] at hb
              obtain ⟨b1, hb1⟩ : ∃ b1, bel c k (j :: q :: p) i = b1 := ⟨_, rfl⟩
              have HN : Hid (S (j + 1) = S j + sg b1) := by show _ = _; rw [HSS.out, if_neg, hb1]; simp [skipB, hji, hbit]
              have HB1 := Lib.hid hb1
              have hpj : PathOk c.n (j :: q :: p) := ⟨hlt, hbit, HK.out⟩
              have HPJ := Lib.hid hpj
              clear hji hbit hb1 hpj
              go_wp2_with fail
              refine (on_any c.n h7 j q p gp wr HK.out (by omega) (by omega) HPr.out).mono ?_
              rintro e w2 ⟨rfl, hp2, hb2⟩
              have HP2 := Lib.hid hp2
              have HBB2 := Lib.hid hb2
              have HC2 := Lib.hid (HCr.out.keep (w' := w2) fun k hk => hb2.block k hk)
              have HR2 := Lib.hid (HRr.out.below (hb2.mono (by have := HW.out.size; omega)))
              clear hp2 hb2
              go_wp2_with fail
              refine (HI.out (j :: q :: p) _ i w2 HPJ.out (by have := HLE.out; simp; omega) hi HC2.out HP2.out HR2.out (by have := HW.out.size; have := HBB2.out.size; omega)).mono ?_
              rintro e w3 ⟨rfl, hb3⟩
              rw [HB1.out]
              have HB3 := Lib.hid (HW.out.trans ((HBB2.out.mono HW.out.size).trans (hb3.mono (by have := HW.out.size; have := HBB2.out.size; omega))))
              clear hb3
              cases b1
              all_goals
                go_wp2
                go_roundw
                case rel => exact ⟨j + 1, by omega, by go_num, by rw [HN.out]; first | rfl | (congr 1), HB3⟩
                case measure => simp [intOf]; omega
            · rw [hbit] at hb
              have HN : Hid (S (j + 1) = S j) := by show _ = _; rw [HSS.out, if_pos]; simp [skipB, hbit]
              clear hji hbit
              go_wp2
              go_roundw
              case rel => exact ⟨j + 1, by omega, by go_num, by rw [HN.out], HW⟩
              case measure => simp [intOf]; omega
        · obtain rfl : j = c.n := by omega
          go_wp2
          go_ret
          exact ⟨ret_bool (by rw [HT.out]), HW.out⟩
end Go.Proofs.Ytjdibhablkhjnaa
