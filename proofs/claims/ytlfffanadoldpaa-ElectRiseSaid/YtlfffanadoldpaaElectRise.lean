/- The law ElectRise, walked. -/
import Derived.Test.YtlfffanadoldpaaElectOne
import Derived.Test.YtlfffanadoldpaaMod
import Derived.Test.YtlfffanadoldpaaPair
set_option linter.unusedVariables false
set_option linter.unusedSimpArgs false
namespace Go.Proofs.Ytlfffanadoldpaa
open Go.RowKit

theorem Rd.pair {w : World} {B n : Nat} {A : Option Addr} {l : List (Nat × Nat)} (h : Rd w B A (n * 2) (ledF l)) {j : Nat} (hj : j < n) :
    ∃ ad, A = some ad ∧ ad.block < B ∧ w.cell? (ad.add (j * 2)) = some (.int .i64 (lfst l j : Nat)) ∧ w.cell? ⟨(ad.add (j * 2)).block, (ad.add (j * 2)).off + 1, none⟩ = some (.int .i64 (lsnd l j : Nat)) := by
  obtain ⟨ad, e, hb, hc⟩ := h (by omega)
  have h0 := hc (j * 2) (by omega)
  have h1 := hc (j * 2 + 1) (by omega)
  rw [← addr_add] at h1
  rw [ledF_0] at h0
  rw [ledF_1] at h1
  exact ⟨ad, e, hb, h0, h1⟩
theorem twos_same (A A' : Option Addr) (n cap cap' B : Nat) (l : List (Nat × Nat)) (w : World) (hn : n ≤ 200) (hr : Rd w B A (n * 2) (ledF l)) (hr' : Rd w B A' (n * 2) (ledF l)) :
    Calls Try.prog 8 #[.slice A n cap, .slice A' n cap'] w fun e w' => e = .returned (.bool true) ∧ Sim w w' := by
  have HR := Lib.hid hr; clear hr
  have HR2 := Lib.hid hr'; clear hr'
  have hEq := fun w a b c d => pair_eq w a b c d
  go_enter Try.func8, Try.ntmps8
  go_wp2
  go_loopw [5] (fun i wr => ∃ j : Nat, j ≤ n ∧ i = .int .i64 j ∧ Hid (Sim w wr)) (fun i _ => n - (intOf i).toNat)
  case atStart => exact ⟨0, by omega, rfl, Lib.hid ⟨rfl, rfl, rfl, rfl⟩⟩
  case round =>
    obtain ⟨j, hj, rfl, HS⟩ := hrel
    by_cases hlt : j < n
    · obtain ⟨ad, rfl, _, a0, a1⟩ := HR.out.pair hlt
      obtain ⟨ae, rfl, _, b0, b1⟩ := HR2.out.pair hlt
      have a0' := (cell_sim HS.out _).trans a0
      have a1' := (cell_sim HS.out _).trans a1
      have b0' := (cell_sim HS.out _).trans b0
      have b1' := (cell_sim HS.out _).trans b1
      clear a0 a1 b0 b1
      go_wp2
      refine wp_text_all (by kernel_rfl) (by kernel_rfl) (by kernel_rfl) (by repeat' (first | (with_reducible apply tame_then) | (with_reducible apply tame_block) | (with_reducible apply tame_scope) | exact tame_gives | exact tame_body (fun _ _ h => ⟨_, h.1⟩))) ?_
      go_wp2
      refine headed ?_
      go_wp2
      go_roundw
      case rel => exact ⟨j + 1, by omega, by go_num, HS⟩
      case measure => simp [intOf]; omega
    · obtain rfl : j = n := by omega
      go_wp2
      go_ret
      exact ⟨rfl, HS.out⟩
theorem ledF_app (l l' : List (Nat × Nat)) {j : Nat} (hj : j < l.length * 2) : ledF (l ++ l') j = ledF l j := by
  have : j / 2 < l.length := by omega
  simp only [ledF, List.getElem?_append_left this]
theorem rise_vals {n : Nat} {M : Mv} {i m : Nat} (him : i ≤ m) : Rise (elE n M i) (elE n M m) := by
  have := Rise.all (n := n) (M := M) (q := i) (m - i)
  rw [show i + (m - i) = m by omega] at this
  exact this

set_option maxRecDepth 100000 in
set_option maxHeartbeats 3200000 in
theorem electRise_good (n k i m cap : Nat) (A : Option Addr) (M : Mv) (w : World) (hk : k < 256) (hmc : m ≤ cap) (hcap : cap ≤ maxLen) (hr : Rd w w.heap.size A (m * 4) (mvF M)) (hki : ((k : Int) % ((m : Int) + 1)) = (i : Int)) (him : i ≤ m) (h1 : 1 ≤ n) (h6 : n ≤ 6) (hm6 : m ≤ 60) :
    Calls Try.prog 4 #[.int .i64 n, .slice A m cap, .int .u8 k] w fun e w' => e = .returned (.bool true) ∧ Below w.heap.size w w' := by
  have hk0 : (0 : Int) ≤ (k : Int) % ((m : Int) + 1) := by rw [hki]; omega
  have hk1 : (k : Int) % ((m : Int) + 1) ≤ (cap : Int) := by rw [hki]; omega
  have HR := Lib.hid hr; clear hr
  have HKN : Hid (k % (m + 1) = i) := mod_nat hki
  have HRI := Lib.hid (rise_vals (n := n) (M := M) him)
  clear hki
  unfold maxLen at hcap
  go_enter Try.func4, Try.ntmps4
  go_wp2_with fail
  refine (el_good n m cap _ A M w h1 h6 hm6 (Nat.le_refl _) HR.out).mono ?_
  rintro e w1 ⟨v, rfl, g, gl, b, AL, cL, AC, cC, AT, cT, AR, cR, AV, cV, rfl, hL⟩
  have HL := Lib.hid hL; clear hL
  go_wp2_with fail
  rw [HKN.out]
  have HL1 := Lib.hid (HL.out.newB [.slice AC m cC, .slice AT n cT, .slice AR n cR, .slice AV n cV, .slice AL (elE n M m).led.length cL] 27 5 rfl _ rfl)
  clear HL
  refine at_lay (F := fun W' => Calls _ _ _ W' _) HL1.out ?_
  intro W hW
  have HW := Lib.hid hW
  clear hW HL1
  generalize w1.heap.size = bb at HW ⊢
  refine (el_good n i cap _ A M W h1 h6 (by omega) HW.out.size ((HR.out.less (by omega)).below HW.out.bel)).mono ?_
  rintro e w2 ⟨v, rfl, g2, gl2, b2, AL2, cL2, AC2, cC2, AT2, cT2, AR2, cR2, AV2, cV2, rfl, hL2⟩
  have HL2 := Lib.hid (HW.out.join hL2)
  clear hL2 HW HKN
  go_upto_region 4 with (fail)
  have HL3 := Lib.hid (HL2.out.newB [.slice AC2 i cC2, .slice AT2 n cT2, .slice AR2 n cR2, .slice AV2 n cV2, .slice AL2 (elE n M i).led.length cL2] 27 5 rfl _ rfl)
  clear HL2
  refine at_lay (F := fun W' => Code.wp _ _ _ _ W') HL3.out ?_
  intro W3 hW
  have HW := Lib.hid hW
  clear hW HL3
  generalize w2.heap.size = bb2 at HW ⊢
  obtain ⟨gT, rfl, -⟩ := (HW.out.own 14 _ rfl).pos1 (by show 0 < n; omega)
  obtain ⟨gV, rfl, -⟩ := (HW.out.own 16 _ rfl).pos1 (by show 0 < n; omega)
  obtain ⟨gT2, rfl, -⟩ := (HW.out.own 5 _ rfl).pos1 (by show 0 < n; omega)
  obtain ⟨gV2, rfl, -⟩ := (HW.out.own 7 _ rfl).pos1 (by show 0 < n; omega)
  have hi1 := (EI.all n M i).led
  have hi2 := (EI.all n M m).led
  obtain ⟨s, hs⟩ : ∃ s, elE n M m = s := ⟨_, rfl⟩
  obtain ⟨p, hp⟩ : ∃ p, elE n M i = p := ⟨_, rfl⟩
  rw [hs] at HW HRI hi2 ⊢
  rw [hp] at HW HRI hi1 ⊢
  clear hs hp
  obtain ⟨lx, hlx⟩ := HRI.out.2
  have hRdp := HW.out.rd 3 rfl
  have hRdo : Rd W3 W3.heap.size AL (p.led.length * 2) (ledF p.led) := by
    have := HW.out.rd 12 rfl
    refine (Rd.less this (m := p.led.length * 2) (by show _ ≤ s.led.length * 2; rw [hlx, List.length_append]; omega)).congr fun j hj => ?_
    show ledF s.led j = _
    rw [hlx]; exact ledF_app _ _ hj
  have HTW := Lib.hid (fun cap cap' (w' : World) (e : Sim W3 w') => twos_same AL2 AL p.led.length cap cap' W3.heap.size p.led w' (by omega) (hRdp.keep fun q _ => cell_sim e q) (hRdo.keep fun q _ => cell_sim e q))
  have hle1 : s.led.length ≤ cL := (HW.out.own 12 _ rfl).le.1
  have hle2 : cL ≤ 9223372036854775807 := by have := (HW.out.own 12 _ rfl).le.2; unfold maxLen at this; exact this
  have hpl : p.led.length ≤ s.led.length := by rw [hlx, List.length_append]; omega
  clear hlx hRdp hRdo
  have c1 := HW.out.cellB 0 rfl 1 (by omega)
  have c3 := HW.out.cellB 0 rfl 3 (by omega)
  have c4 := HW.out.cellB 0 rfl 4 (by omega)
  have d1 := HW.out.cellB 9 rfl 1 (by omega)
  have d3 := HW.out.cellB 9 rfl 3 (by omega)
  have d4 := HW.out.cellB 9 rfl 4 (by omega)
  simp only [ofL_1, ofL_3, ofL_4] at c1 c3 c4 d1 d3 d4
  generalize p.led.length = pl at *
  generalize s.led.length = sl at *
  have hpi : (pl : Int) ≤ (cL : Int) := by omega
  have hps : (pl : Int) ≤ (sl : Int) := by omega
  have hd1 : decide ((sl : Int) < (pl : Int)) = false := decide_eq_false (by omega)
  have hd2 : decide (sl < pl) = false := decide_eq_false (by omega)
  go_wp2
  refine wp_text 48 (by kernel_rfl) (by kernel_rfl) (by kernel_rfl) (by repeat' (first | (with_reducible apply tame_then) | (with_reducible apply tame_block) | (with_reducible apply tame_scope) | exact tame_gives | exact tame_body (fun _ _ h => ⟨_, h.1⟩))) ?_
  simp only [List.take_succ_cons, List.take_zero, List.drop_succ_cons, List.drop_zero]
  go_wp2
  refine headed ?_
  go_wp2_with fail
  refine (HTW.out cL2 cL W3.drew ⟨rfl, rfl, rfl, rfl⟩).mono ?_
  rintro e w4 ⟨rfl, hs4⟩
  have HRT := Lib.hid (fun a (ha : a < n) => HW.out.cell1 14 rfl (j := a) ha)
  have HRV := Lib.hid (fun a (ha : a < n) => HW.out.cell1 16 rfl (j := a) ha)
  have HPT := Lib.hid (fun a (ha : a < n) => HW.out.cell1 5 rfl (j := a) ha)
  have HPV := Lib.hid (fun a (ha : a < n) => HW.out.cell1 7 rfl (j := a) ha)
  have HBL := Lib.hid HW.out.bel
  have HS4 : Hid (Sim W3 w4) := ⟨hs4.1, hs4.2.1, hs4.2.2.1, hs4.2.2.2⟩
  have HD1 := Lib.hid d1
  have HD3 := Lib.hid d3
  have HC1 := Lib.hid c1
  have HC3 := Lib.hid c3
  clear hs4 HW c1 c3 c4 d1 d3 d4 HTW
  go_wp2
  clear hpi hps hle1 hle2 hpl hi1 hi2 hd1 hd2
  go_loopw [12] (fun z wr => ∃ a : Nat, a ≤ n ∧ z = .int .i64 a ∧ Hid (Sim W3 wr)) (fun z _ => n - (intOf z).toNat)
  case atStart => exact ⟨0, by omega, rfl, HS4⟩
  case round =>
    clear HS4
    obtain ⟨a, ha, rfl, HS⟩ := hrel
    by_cases han : a < n
    · have c1' := (cell_sim HS.out _).trans HC1.out
      have c3' := (cell_sim HS.out _).trans HC3.out
      have d1' := (cell_sim HS.out _).trans HD1.out
      have d3' := (cell_sim HS.out _).trans HD3.out
      have r1 := (cell_sim HS.out _).trans (HPT.out a han)
      have r2 := (cell_sim HS.out _).trans (HPV.out a han)
      have r3 := (cell_sim HS.out _).trans (HRT.out a han)
      have r4 := (cell_sim HS.out _).trans (HRV.out a han)
      obtain ⟨hle, heq⟩ := HRI.out.1 a
      obtain ⟨x, hx⟩ : ∃ x, s.T a = x := ⟨_, rfl⟩
      obtain ⟨y, hy⟩ : ∃ y, p.T a = y := ⟨_, rfl⟩
      obtain ⟨u, hu⟩ : ∃ u, s.V a = u := ⟨_, rfl⟩
      obtain ⟨v, hv⟩ : ∃ v, p.V a = v := ⟨_, rfl⟩
      rw [hx] at r3 hle heq
      rw [hy] at r1 hle heq
      rw [hu] at r4 heq
      rw [hv] at r2 heq
      clear hx hy hu hv
      have hge : ¬ (x : Int) < (y : Int) := by omega
      by_cases hxy : x = y
      · have hq2 := heq hxy.symm
        clear heq
        subst hxy
        by_cases h0 : 0 ≤ v
        · have hq3 := hq2 h0
          subst hq3
          clear hge hle hq2
          go_wp2
          refine wp_text_all (by kernel_rfl) (by kernel_rfl) (by kernel_rfl) (by repeat' (first | (with_reducible apply tame_then) | (with_reducible apply tame_block) | (with_reducible apply tame_scope) | exact tame_gives | exact tame_body (fun _ _ h => ⟨_, h.1⟩))) ?_
          go_wp2
          refine headed ?_
          go_wp2
          go_roundw
          case rel => exact ⟨a + 1, by omega, by go_num, HS⟩
          case measure => simp [intOf]; omega
        · clear hq2 hge hle
          have h0' : v < 0 := by omega
          go_wp2
          refine wp_text_all (by kernel_rfl) (by kernel_rfl) (by kernel_rfl) (by repeat' (first | (with_reducible apply tame_then) | (with_reducible apply tame_block) | (with_reducible apply tame_scope) | exact tame_gives | exact tame_body (fun _ _ h => ⟨_, h.1⟩))) ?_
          go_wp2
          refine headed ?_
          go_wp2
          go_roundw
          case rel => exact ⟨a + 1, by omega, by go_num, HS⟩
          case measure => simp [intOf]; omega
      · have e1 : ((x : Int) == (y : Int)) = false := by rw [beq_eq_false_iff_ne]; omega
        have e2 : (x == y) = false := by simpa using hxy
        have e3 : decide ((x : Int) < (y : Int)) = false := decide_eq_false hge
        have e4 : decide (x < y) = false := decide_eq_false (by omega)
        clear heq hxy
        go_wp2
        refine wp_text_all (by kernel_rfl) (by kernel_rfl) (by kernel_rfl) (by repeat' (first | (with_reducible apply tame_then) | (with_reducible apply tame_block) | (with_reducible apply tame_scope) | exact tame_gives | exact tame_body (fun _ _ h => ⟨_, h.1⟩))) ?_
        go_wp2
        refine headed ?_
        go_wp2
        go_roundw
        case rel => exact ⟨a + 1, by omega, by go_num, HS⟩
        case measure => simp [intOf]; omega
    · go_wp2
      go_ret
      exact ⟨rfl, below_sim HBL.out HS.out⟩
theorem electRise_bad (n : Int) (k i m cap : Nat) (A : Option Addr) (M : Mv) (w : World) (hk : k < 256) (hmc : m ≤ cap) (hcap : cap * 32 ≤ 140737488351232) (hr : Rd w w.heap.size A (m * 4) (mvF M)) (hki : ((k : Int) % ((m : Int) + 1)) = (i : Int)) (him : i ≤ m) (hb : playedB n m = false) :
    Calls Try.prog 4 #[.int .i64 n, .slice A m cap, .int .u8 k] w fun e w' => e = .returned (.bool true) ∧ Below w.heap.size w w' := by
  have hk0 : (0 : Int) ≤ (k : Int) % ((m : Int) + 1) := by rw [hki]; omega
  have hk1 : (k : Int) % ((m : Int) + 1) ≤ (cap : Int) := by rw [hki]; omega
  have HR := Lib.hid hr; clear hr
  have HKN : Hid (k % (m + 1) = i) := mod_nat hki
  clear hki
  have HB := Lib.hid hb; clear hb
  have HM : Hid (m ≤ maxLen) := by show m ≤ maxLen; unfold maxLen; omega
  go_enter Try.func4, Try.ntmps4
  go_wp2_with fail
  refine (el_bad' n m cap A w HM.out HB.out).mono ?_
  rintro e w1 ⟨rfl, hb1⟩
  have HB1 := Lib.hid (hb1.alloc hb1.size (.cells #[.slice none 0 0, .slice none 0 0, .slice none 0 0, .slice none 0 0, .slice none 0 0] 27)); clear hb1
  go_wp2_with fail
  rw [HKN.out]
  generalize w1.alloc (.cells #[.slice none 0 0, .slice none 0 0, .slice none 0 0, .slice none 0 0, .slice none 0 0] 27) = W1 at HB1 ⊢
  cases h2 : playedB n i
  · have HN2 := Lib.hid h2; clear h2
    refine (el_bad' n i cap A W1 (Nat.le_trans him HM.out) HN2.out).mono ?_
    rintro e w2 ⟨rfl, hb2⟩
    have HB2 := Lib.hid (HB1.out.trans (hb2.mono HB1.out.size)); clear hb2
    go_wp2_with (go_at_call 7; refine (bool_is (played_any n m _) HB.out).mono ?_; rintro e w3 ⟨rfl, rfl⟩)
    go_ret
    exact ⟨rfl, HB2.out.alloc HB2.out.size _⟩
  · obtain ⟨h3, h4, h5⟩ := playedB_iff.1 h2
    clear h2
    obtain ⟨n, rfl⟩ := Int.eq_ofNat_of_zero_le (show 0 ≤ n by omega)
    refine (el_good n i cap _ A M W1 (by omega) (by omega) (by omega) HB1.out.size ((HR.out.less (by omega)).below HB1.out)).mono ?_
    rintro e w2 ⟨v, rfl, g2, gl2, b2, AL2, cL2, AC2, cC2, AT2, cT2, AR2, cR2, AV2, cV2, rfl, hL2⟩
    have HB2 := Lib.hid (HB1.out.trans (hL2.bel.mono HB1.out.size))
    clear hL2
    go_wp2_with (go_at_call 7; refine (bool_is (played_any n m _) HB.out).mono ?_; rintro e w3 ⟨rfl, rfl⟩)
    go_ret
    exact ⟨rfl, HB2.out.alloc HB2.out.size _⟩
theorem electRise_all (n : Int) (A : Option Addr) (m cap : Nat) (M : Mv) (k : Int) (w : World) (_ : (Lit.int .i64 n).wf = true) (hmc : m ≤ cap ∧ cap * 32 ≤ 140737488351232) (hr : Rd w w.heap.size A (m * 4) (mvF M)) (hk : (Lit.int .u8 k).wf = true) :
    Calls Try.prog 4 #[.int .i64 n, .slice A m cap, .int .u8 k] w fun e w' => e = .returned (.bool true) ∧ Below w.heap.size w w' := by
  obtain ⟨k, rfl, hk2⟩ := u8_nat hk
  obtain ⟨i, hi1, hi2, _⟩ := mod_some k m
  have hcap : cap ≤ maxLen := by unfold maxLen; omega
  cases hb : playedB n m
  · exact electRise_bad n k i m cap A M w hk2 hmc.1 hmc.2 hr hi1 hi2 hb
  · obtain ⟨h1, h2, h3⟩ := playedB_iff.1 hb
    obtain ⟨n, rfl⟩ := Int.eq_ofNat_of_zero_le (show 0 ≤ n by omega)
    exact electRise_good n k i m cap A M w hk2 hmc.1 hcap hr hi1 hi2 (by omega) (by omega) (by omega)
end Go.Proofs.Ytlfffanadoldpaa
