/- The law LogsMatch, walked. -/
import Derived.Test.YtfhmabpalimcnaaLg11
set_option linter.unusedVariables false
set_option linter.unusedSimpArgs false
namespace Go.Proofs.Ytfhmabpalimcnaa
open Go.RowKit

theorem cm_get {k : Nat} {la lb : List Ent} (h : Cm (k + 1) la lb) : ∀ j, j < k + 1 → la[j]? = lb[j]? := fun j hj => h.get hj
set_option maxRecDepth 100000 in
set_option maxHeartbeats 3200000 in
theorem logsMatch_good (n m cap : Nat) (A : Option Addr) (M : Mv) (w : World) (hr : Rd w w.heap.size A (m * 4) (mvF M)) (h1 : 1 ≤ n) (h6 : n ≤ 6) (hm6 : m ≤ 60) :
    Calls Try.prog 3 #[.int .i64 n, .slice A m cap] w fun e w' => e = .returned (.bool true) ∧ Below w.heap.size w w' := by
  have HR := Lib.hid hr; clear hr
  have HB : Hid (playedB n m = true) := playedB_iff.2 ⟨by omega, by omega, by omega⟩
  have hmatch := @lg_match n M (by omega) m
  have hsl := @lg_sulen n M (by omega) m
  have hl30 := (LB.all n M m).len
  go_enter Try.func3, Try.ntmps3
  go_wp2_with fail
  refine (lg_play n m cap _ A M w h1 h6 hm6 (Nat.le_refl _) HR.out).mono ?_
  rintro e w1 ⟨v, rfl, p, rfl, hp, hb⟩
  generalize lgE n M m = S at hmatch hsl hl30 hp
  have HM : Hid (∀ i j k, k < (S.lg i).length → k < (S.lg j).length → trm (S.lg i) k = trm (S.lg j) k → Cm (k + 1) (S.lg i) (S.lg j)) := Lib.hid fun i j k => hmatch
  have HSL := Lib.hid hsl
  have H30 := Lib.hid hl30
  have HP := Lib.hid hp
  have HBW := Lib.hid hb
  clear hmatch hsl hl30 hp hb
  go_wp2_with fail
  have HL0 := Lib.hid ((Lay.nil w1).newB (p.l n m) 27 5 rfl _ rfl)
  refine at_lay (F := fun W' => Calls _ _ _ W' _) HL0.out ?_
  intro W hW
  have HW := Lib.hid hW
  clear hW HL0
  generalize w1.heap.size = bx at HW ⊢
  refine (bool_is (played_any n m _) HB.out).mono ?_
  rintro e w3 ⟨rfl, rfl⟩
  have b0 := HW.out.cellB 0 rfl 0 (by omega)
  have b1 := HW.out.cellB 0 rfl 1 (by omega)
  have b2 := HW.out.cellB 0 rfl 2 (by omega)
  have b3 := HW.out.cellB 0 rfl 3 (by omega)
  have b4 := HW.out.cellB 0 rfl 4 (by omega)
  simp only [ofL_0, ofL_1, ofL_2, ofL_3, ofL_4] at b0 b1 b2 b3 b4
  go_wp2_with fail
  refine (logged_any n m w1.heap.size S p _ h6 HSL.out H30.out (HP.out.to HW.out.bel)).mono ?_
  rintro e w4 ⟨rfl, hb4⟩
  have HW4 := Lib.hid (HW.out.keep hb4)
  clear hb4 HW b0 b1 b2 b3 b4
  go_wp2
  go_loopw [7] (fun x wr => ∃ i : Nat, i ≤ n ∧ x = .int .i64 i ∧ Hid (Lay w1 wr [blkG bx (p.l n m)])) (fun x _ => n - (intOf x).toNat)
  case atStart => exact ⟨0, by omega, rfl, HW4⟩
  case round =>
    clear HW4
    obtain ⟨i, hi, rfl, HQ⟩ := hrel
    by_cases hlt : i < n
    · go_wp2
      obtain ⟨w6, hw6⟩ : ∃ w6, w6 = wr := ⟨_, rfl⟩
      subst hw6
      go_loopw [8] (fun x wr => ∃ j : Nat, j ≤ i ∧ x = .int .i64 j ∧ Hid (Lay w1 wr [blkG bx (p.l n m)])) (fun x _ => i - (intOf x).toNat)
      case atStart => exact ⟨0, by omega, rfl, HQ⟩
      case round =>
        clear HQ
        obtain ⟨j, hj, rfl, HQ⟩ := hrel
        by_cases hjt : j < i
        · go_wp2
          obtain ⟨w7, hw7⟩ : ∃ w7, w7 = wr := ⟨_, rfl⟩
          subst hw7
          go_loopw [9] (fun x wr => ∃ k : Nat, k ≤ 30 ∧ x = .int .i64 k ∧ Hid (Lay w1 wr [blkG bx (p.l n m)])) (fun x _ => 31 - (intOf x).toNat)
          case atStart => exact ⟨0, by omega, rfl, HQ⟩
          case round =>
            clear HQ
            obtain ⟨k, hk30, rfl, HQ⟩ := hrel
            have hq2 := HP.out.to HQ.out.bel
            have g1 := hq2.G i hlt
            have g2 := hq2.G j (by omega)
            have b3 := HQ.out.cellB 0 rfl 3 (by omega)
            simp only [ofL_3] at b3
            obtain ⟨p1, p2, p3⟩ := hq2.L i hlt
            obtain ⟨q1, q2, q3⟩ := hq2.L j (by omega)
            have hq1 := hq2.le
            have l1 := H30.out i
            have l2 := H30.out j
            have HMk := Lib.hid (HM.out i j k)
            have HE1 := fun h => Lib.hid (rd_ent (k := k) p3 h)
            have HE2 := fun h => Lib.hid (rd_ent (k := k) q3 h)
            have HRp := Lib.hid p3
            have HRq := Lib.hid q3
            clear hq2 p3 q3
            generalize S.lg i = la at g1 p1 l1 HMk HE1 HRp
            generalize S.lg j = lb at g2 q1 l2 HMk HE2 HRq
            generalize p.gc i = ci at g1 p1 p2
            generalize p.gc j = cj at g2 q1 q2
            unfold maxLen at p2 q2
            obtain ⟨La, hLa⟩ : ∃ La, la.length = La := ⟨_, rfl⟩
            obtain ⟨Lb, hLb⟩ : ∃ Lb, lb.length = Lb := ⟨_, rfl⟩
            rw [hLa] at g1 p1 l1 HMk HE1 HRp
            rw [hLb] at g2 q1 l2 HMk HE2 HRq
            have HLA := Lib.hid (And.intro hLa hLb)
            clear hLa hLb
            by_cases hka : k < La
            · by_cases hkb : k < Lb
              · obtain ⟨a1, ha1, -, y0, -⟩ := (HE1 hka).out
                obtain ⟨a2, ha2, -, z0, -⟩ := (HE2 hkb).out
                rw [ha1] at g1 HRp
                rw [ha2] at g2 HRq
                clear HE1 HE2 ha1 ha2
                obtain ⟨f, hf⟩ : ∃ f, (trm la k == trm lb k) = f := ⟨_, rfl⟩
                have hf' := cast_beqN hf
                have HF := Lib.hid hf
                clear hf
                generalize trm la k = u1 at y0 hf' HF HMk
                generalize trm lb k = u2 at z0 hf' HF HMk
                cases f
                · go_wp2
                  refine wp_text 36 (by kernel_rfl) (by kernel_rfl) (by kernel_rfl) (by repeat' (first | (with_reducible apply tame_then) | (with_reducible apply tame_block) | (with_reducible apply tame_scope) | exact tame_gives | exact tame_body (fun _ _ h => ⟨_, h.1⟩))) ?_
                  simp only [List.take_succ_cons, List.take_zero, List.drop_succ_cons, List.drop_zero]
                  go_wp2
                  refine headed ?_
                  go_wp2
                  go_roundw
                  case rel => exact ⟨k + 1, by omega, by go_num, HQ.out.drew⟩
                  case measure => first | (simp [intOf]; done) | (simp [intOf]; omega)
                · have HCM := Lib.hid (cm_get (HMk.out hka hkb (by simpa using HF.out)))
                  go_wp2
                  refine wp_text 36 (by kernel_rfl) (by kernel_rfl) (by kernel_rfl) (by repeat' (first | (with_reducible apply tame_then) | (with_reducible apply tame_block) | (with_reducible apply tame_scope) | exact tame_gives | exact tame_body (fun _ _ h => ⟨_, h.1⟩))) ?_
                  simp only [List.take_succ_cons, List.take_zero, List.drop_succ_cons, List.drop_zero]
                  go_wp2
                  refine headed ?_
                  go_wp2_with fail
                  refine (entries_any la lb (k + 1) ci cj w1.heap.size _ _ wr.drew (by rw [HLA.out.1]; omega) (by rw [HLA.out.2]; omega) (by omega) HCM.out hq1 (HRp.out.less (by omega)) (HRq.out.less (by omega))).mono ?_
                  rintro e w8 ⟨rfl, h8⟩
                  have HQ8 := Lib.hid (HQ.out.drew.keep h8)
                  clear h8 HQ
                  go_wp2
                  go_roundw
                  case rel => exact ⟨k + 1, by omega, by go_num, HQ8⟩
                  case measure => first | (simp [intOf]; done) | (simp [intOf]; omega)
              · clear HE1 HE2
                go_wp2
                go_roundw
                case rel => exact ⟨j + 1, by omega, by go_num, HQ⟩
                case measure => first | (simp [intOf]; done) | (simp [intOf]; omega)
            · clear HE1 HE2
              go_wp2
              go_roundw
              case rel => exact ⟨j + 1, by omega, by go_num, HQ⟩
              case measure => first | (simp [intOf]; done) | (simp [intOf]; omega)
        · obtain rfl : j = i := by omega
          go_wp2
          go_roundw
          case rel => exact ⟨j + 1, by omega, by go_num, HQ⟩
          case measure => first | (simp [intOf]; done) | (simp [intOf]; omega)
    · obtain rfl : i = n := by omega
      go_wp2
      go_ret
      exact ⟨rfl, HBW.out.trans (HQ.out.bel.mono HBW.out.size)⟩
theorem logsMatch_bad (n : Int) (m cap : Nat) (A : Option Addr) (w : World) (hm : m ≤ maxLen) (hb : playedB n m = false) :
    Calls Try.prog 3 #[.int .i64 n, .slice A m cap] w fun e w' => e = .returned (.bool true) ∧ Below w.heap.size w w' := by
  have HB := Lib.hid hb
  go_enter Try.func3, Try.ntmps3
  go_wp2_with fail
  refine (lg_bad' n m cap A w hm HB.out).mono ?_
  rintro e w1 ⟨rfl, hb1⟩
  go_wp2_with fail
  refine (bool_is (played_any n m _) HB.out).mono ?_
  rintro e w3 ⟨rfl, rfl⟩
  go_wp2
  go_ret
  exact ⟨rfl, hb1.alloc hb1.size _⟩
theorem logsMatch_all (n : Int) (A : Option Addr) (m cap : Nat) (M : Mv) (w : World) (_ : (Lit.int .i64 n).wf = true) (hmc : m ≤ cap ∧ cap ≤ maxLen) (hr : Rd w w.heap.size A (m * 4) (mvF M)) :
    Calls Try.prog 3 #[.int .i64 n, .slice A m cap] w fun e w' => e = .returned (.bool true) ∧ Below w.heap.size w w' := by
  cases hb : playedB n m
  · exact logsMatch_bad n m cap A w (by omega) hb
  · obtain ⟨h1, h2, h3⟩ := playedB_iff.1 hb
    obtain ⟨k, rfl⟩ := Int.eq_ofNat_of_zero_le (show 0 ≤ n by omega)
    exact logsMatch_good k m cap A M w hr (by omega) (by omega) (by omega)
end Go.Proofs.Ytfhmabpalimcnaa
