/- The law LogsTerms, walked. -/
import Derived.Test.YtfhmabpalimcnaaLg11
set_option linter.unusedVariables false
set_option linter.unusedSimpArgs false
namespace Go.Proofs.Ytfhmabpalimcnaa
open Go.RowKit

def lastAt (l : List Ent) (k : Nat) : Nat := if k = 0 then 1 else trm l (k - 1)
theorem last_le {b : Nat} {l : List Ent} (h : Srt b l) {k : Nat} (hk : k < l.length) : lastAt l k ≤ trm l k := by
  unfold lastAt
  split
  · exact h.one k hk
  · exact h.up _ _ (by omega) hk
set_option maxRecDepth 100000 in
set_option maxHeartbeats 3200000 in
theorem logsTerms_good (n m cap : Nat) (A : Option Addr) (M : Mv) (w : World) (hr : Rd w w.heap.size A (m * 4) (mvF M)) (h1 : 1 ≤ n) (h6 : n ≤ 6) (hm6 : m ≤ 60) :
    Calls Try.prog 6 #[.int .i64 n, .slice A m cap] w fun e w' => e = .returned (.bool true) ∧ Below w.heap.size w w' := by
  have HR := Lib.hid hr; clear hr
  have HB : Hid (playedB n m = true) := playedB_iff.2 ⟨by omega, by omega, by omega⟩
  have hso := @lg_terms n M (by omega) m
  have hsl := @lg_sulen n M (by omega) m
  have hl30 := (LB.all n M m).len
  go_enter Try.func6, Try.ntmps6
  go_wp2_with fail
  refine (lg_play n m cap _ A M w h1 h6 hm6 (Nat.le_refl _) HR.out).mono ?_
  rintro e w1 ⟨v, rfl, p, rfl, hp, hb⟩
  generalize lgE n M m = S at hso hsl hl30 hp
  have HM := Lib.hid hso
  have HSL := Lib.hid hsl
  have H30 := Lib.hid hl30
  have HP := Lib.hid hp
  have HBW := Lib.hid hb
  clear hso hsl hl30 hp hb
  go_wp2_with fail
  have HL0 := Lib.hid ((Lay.nil w1).newB (p.l n m) 27 5 rfl _ rfl)
  refine at_lay (F := fun W' => Calls _ _ _ W' _) HL0.out ?_
  intro W hW
  have HW := Lib.hid hW
  clear hW HL0
  generalize w1.heap.size = bx at HW ⊢
  refine (bool_is (played_any n m _) HB.out).mono ?_
  rintro e w3 ⟨rfl, rfl⟩
  have b0 := HW.out.cellB 0 rfl 0 (by omega)
  have b1 := HW.out.cellB 0 rfl 1 (by omega)
  have b2 := HW.out.cellB 0 rfl 2 (by omega)
  have b3 := HW.out.cellB 0 rfl 3 (by omega)
  have b4 := HW.out.cellB 0 rfl 4 (by omega)
  simp only [ofL_0, ofL_1, ofL_2, ofL_3, ofL_4] at b0 b1 b2 b3 b4
  go_wp2_with fail
  refine (logged_any n m w1.heap.size S p _ h6 HSL.out H30.out (HP.out.to HW.out.bel)).mono ?_
  rintro e w4 ⟨rfl, hb4⟩
  have HW4 := Lib.hid (HW.out.keep hb4)
  clear hb4 HW b0 b1 b2 b3 b4
  go_wp2
  go_loopw [7] (fun x wr => ∃ i : Nat, i ≤ n ∧ x = .int .i64 i ∧ Hid (Lay w1 wr [blkG bx (p.l n m)])) (fun x _ => n - (intOf x).toNat)
  case atStart => exact ⟨0, by omega, rfl, HW4⟩
  case round =>
    clear HW4
    obtain ⟨i, hi, rfl, HQ⟩ := hrel
    by_cases hlt : i < n
    · have hq2 := HP.out.to HQ.out.bel
      have g1 := hq2.G i hlt
      have b3 := HQ.out.cellB 0 rfl 3 (by omega)
      simp only [ofL_3] at b3
      obtain ⟨p1, p2, p3⟩ := HP.out.L i hlt
      have l1 := H30.out i
      have HRp := Lib.hid p3
      have HSi := Lib.hid (HM.out i)
      have HTi : Hid (∀ W, Below w1.heap.size w1 W → W.cell? (p.aT.add i) = some (.int .i64 (S.e.T i : Nat))) := Lib.hid fun W hW => (HP.out.to hW).T i hlt
      clear hq2 p3
      generalize S.lg i = la at g1 p1 l1 HRp HSi
      generalize S.e.T i = T at HSi HTi
      obtain ⟨La, hLa⟩ : ∃ La, la.length = La := ⟨_, rfl⟩
      rw [hLa] at g1 p1 l1 HRp
      have HLA := Lib.hid hLa
      clear hLa
      go_wp2
      clear g1 b3
      obtain ⟨w6, hw6⟩ : ∃ w6, w6 = wr := ⟨_, rfl⟩
      subst hw6
      go_loopw [8, 45] (fun x y wr => ∃ k t : Nat, k ≤ La ∧ x = .int .i64 t ∧ y = .int .i64 k ∧ Hid (t = lastAt la k) ∧ Hid (Lay w1 wr [blkG bx (p.l n m)])) (fun _ y _ => La - (intOf y).toNat)
      case atStart => exact ⟨0, 1, by omega, rfl, rfl, Lib.hid rfl, HQ⟩
      case round =>
        clear HQ
        obtain ⟨k, t, hk, rfl, rfl, HT, HQ⟩ := hrel
        by_cases hkt : k < La
        · obtain ⟨a1, ha1, -, y0, y1⟩ := rd_ent (HRp.out.below (HQ.out.bel.mono (Nat.le_refl _))) (k := k) hkt
          rw [ha1]
          have hlow := last_le HSi.out (k := k) (by rw [HLA.out]; exact hkt)
          have htop := HSi.out.top k (by rw [HLA.out]; exact hkt)
          have HN : Hid (trm la k = lastAt la (k + 1)) := Lib.hid rfl
          rw [← HT.out] at hlow
          generalize trm la k = u at y0 hlow htop HN
          generalize vle la k = v at y1
          clear HT
          go_wp2
          clear y0 y1
          have HQ1 : Hid (Lay w1 (wr.alloc (.cells #[.int .i64 (u : Nat), .int .i64 v] 35)) [blk wr.heap.size 35 2 (ofL [.int .i64 (u : Nat), .int .i64 v]), blkG bx (p.l n m)]) := HQ.out.newB [.int .i64 (u : Nat), .int .i64 v] _ 2 rfl _ rfl
          refine at_lay (F := fun W' => Code.wp _ _ _ _ W') HQ1.out ?_
          intro W7 hW7
          have HW7 := Lib.hid hW7
          clear hW7 HQ1 HQ
          generalize wr.heap.size = be at HW7 ⊢
          have e0 := HW7.out.cellB 0 rfl 0 (by omega)
          have b1 := HW7.out.cellB 1 rfl 1 (by omega)
          have t0 := HTi.out W7 HW7.out.bel
          simp only [ofL_0, ofL_1] at e0 b1
          refine wp_text_all (by kernel_rfl) (by kernel_rfl) (by kernel_rfl) (by repeat' (first | (with_reducible apply tame_then) | (with_reducible apply tame_block) | (with_reducible apply tame_scope) | exact tame_gives | exact tame_body (fun _ _ h => ⟨_, h.1⟩))) ?_
          go_wp2
          refine headed ?_
          go_wp2
          go_roundw
          case rel => exact ⟨k + 1, u, by omega, rfl, by go_num, HN, HW7.out.drew.tail⟩
          case measure => first | (simp [intOf]; done) | (simp [intOf]; omega)
        · go_wp2
          go_roundw
          case rel => exact ⟨i + 1, by omega, by go_num, HQ⟩
          case measure => first | (simp [intOf]; done) | (simp [intOf]; omega)
    · obtain rfl : i = n := by omega
      go_wp2
      go_ret
      exact ⟨rfl, HBW.out.trans (HQ.out.bel.mono HBW.out.size)⟩
theorem logsTerms_bad (n : Int) (m cap : Nat) (A : Option Addr) (w : World) (hm : m ≤ maxLen) (hb : playedB n m = false) :
    Calls Try.prog 6 #[.int .i64 n, .slice A m cap] w fun e w' => e = .returned (.bool true) ∧ Below w.heap.size w w' := by
  have HB := Lib.hid hb
  go_enter Try.func6, Try.ntmps6
  go_wp2_with fail
  refine (lg_bad' n m cap A w hm HB.out).mono ?_
  rintro e w1 ⟨rfl, hb1⟩
  go_wp2_with fail
  refine (bool_is (played_any n m _) HB.out).mono ?_
  rintro e w3 ⟨rfl, rfl⟩
  go_wp2
  go_ret
  exact ⟨rfl, hb1.alloc hb1.size _⟩
theorem logsTerms_all (n : Int) (A : Option Addr) (m cap : Nat) (M : Mv) (w : World) (_ : (Lit.int .i64 n).wf = true) (hmc : m ≤ cap ∧ cap ≤ maxLen) (hr : Rd w w.heap.size A (m * 4) (mvF M)) :
    Calls Try.prog 6 #[.int .i64 n, .slice A m cap] w fun e w' => e = .returned (.bool true) ∧ Below w.heap.size w w' := by
  cases hb : playedB n m
  · exact logsTerms_bad n m cap A w (by omega) hb
  · obtain ⟨h1, h2, h3⟩ := playedB_iff.1 hb
    obtain ⟨k, rfl⟩ := Int.eq_ofNat_of_zero_le (show 0 ≤ n by omega)
    exact logsTerms_good k m cap A M w hr (by omega) (by omega) (by omega)
end Go.Proofs.Ytfhmabpalimcnaa
