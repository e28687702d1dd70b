/- The law ElectGoes, walked. -/
import Derived.Test.YtlfffanadoldpaaElectOne
import Derived.Test.YtlfffanadoldpaaElGoes
import Derived.Test.YtlfffanadoldpaaMod
set_option linter.unusedVariables false
set_option linter.unusedSimpArgs false
namespace Go.Proofs.Ytlfffanadoldpaa
open Go.RowKit

abbrev Z0 : Mv := ⟨fun _ => 0, fun _ => 0, fun _ => 0, fun _ => 0⟩
abbrev mvs (A : Option Addr) (q cap : Nat) (M : Mv) : LRow := ⟨A, 37, 4, q, cap, mvF M⟩

set_option maxRecDepth 100000 in
set_option maxHeartbeats 6400000 in
theorem electGoes_go (n c k m cap : Nat) (A : Option Addr) (M : Mv) (w : World) (hr : Rd w w.heap.size A (m * 4) (mvF M)) (hn1 : 1 ≤ n) (hn : n ≤ 3) (hm : m ≤ 9) (hk : k < 256) (hkc : k % n = c) :
    Calls Try.prog 5 #[.int .i64 n, .slice A m cap, .int .u8 k] w fun e w' => e = .returned (.bool true) ∧ Below w.heap.size w w' := by
  have HR := Lib.hid hr; clear hr
  have hcn : c < n := by rw [← hkc]; exact Nat.mod_lt _ (by omega)
  have hkc2 : ((k : Int) % (n : Int)) = (c : Int) := by rw [← hkc]; simp
  have HKC := Lib.hid hkc
  have HKI := Lib.hid hkc2
  clear hkc hkc2
  go_enter Try.func5, Try.ntmps5
  go_upto_region 4 with (fail)
  first | rw [HKC.out] | rw [HKI.out]
  go_wp2_with (first
    | (at_builtin; refine wpList_apMvs rfl (.tmp 28) (.tmp 29) rfl w.heap.size rfl (Own.empty _ _ _ _ (mvF Z0) _ (by simp) (by simp)) rfl (HR.out.alloc (Nat.le_refl _) _) m (Nat.zero_add m) (by unfold maxLen; omega) (by omega) (by simp) ?_; intro A3 c3 w3 ho3 hg3 ha3
       have HL3 : Hid (Lay w w3 [mvs A3 m c3 (Z0.app 0 M)]) := (((Lay.nil w).new #[] 37 4 0 (mvF Z0) _ rfl rfl (by unfold maxLen; omega) (fun j hj => absurd hj (by omega))).app 0 rfl ho3 hg3 ha3)
       clear ho3 hg3 ha3)
    | (at_builtin; refine wpList_apMv rfl (.tmp 30) (.tmp 33) rfl w.heap.size rfl w3.heap.size _ _ _ _ rfl rfl (HL3.out.own 0 _ rfl) rfl (by omega) HL3.out.size ?_; intro A4 c4 w4 ho4 hg4 ha4
       have HL4 := Lib.hid ((HL3.out.alloc _).app 0 rfl ho4 hg4 ha4)
       clear ho4 hg4 ha4)
    | fail)
  have HG4 : Hid (StG c n 0 (elE n ((Z0.app 0 M).push m 6 c 0 0) (m + 1))) := by
    show StG _ _ _ _
    rw [elE_push]
    exact stG_crash hcn (EI.all n _ m) (by omega)
  go_loopw [8, 9] (fun l i wr => ∃ (r q : Nat) (A' : Option Addr) (cap' : Nat) (M' : Mv), r ≤ 11 ∧ q ≤ m + 1 + r * 4 ∧ i = .int .i64 (r : Nat) ∧ l = .slice A' q cap' ∧ Hid (Lay w wr [mvs A' q cap' M']) ∧ Hid (StG c n r (elE n M' q))) (fun _ i _ => 11 - (intOf i).toNat)
  case atStart => exact ⟨0, m + 1, A4, c4, _, by omega, by omega, rfl, rfl, HL4, HG4⟩
  case round =>
    clear HL3 HL4 HG4
    obtain ⟨r, q, A1, cap1, M1, hr11, hq, rfl, rfl, HL, HG⟩ := hrel
    have hz := HL.out.size
    by_cases hrN : r < 11
    · go_wp2_with (at_builtin; refine wpList_apMv rfl (.tmp 39) (.tmp 42) rfl w.heap.size rfl wr.heap.size _ _ _ _ rfl rfl (HL.out.own 0 _ rfl) rfl (by omega) HL.out.size ?_; intro A2 c2 w2 ho2 hg2 ha2
                   have HL2 := Lib.hid ((HL.out.alloc _).app 0 rfl ho2 hg2 ha2)
                   clear ho2 hg2 ha2)
      have HG2 : Hid (MidG c n r 0 (elE n (M1.push q 1 c 0 0) (q + 1))) := by
        show MidG _ _ _ _ _
        rw [elE_push]
        exact stG_stand hcn HG.out
      clear HL HG hz
      go_loopw [8, 10] (fun l i wr => ∃ (j q2 : Nat) (A' : Option Addr) (cap' : Nat) (M' : Mv), j ≤ n ∧ q2 ≤ q + 1 + j ∧ i = .int .i64 (j : Nat) ∧ l = .slice A' q2 cap' ∧ Hid (Lay w wr [mvs A' q2 cap' M']) ∧ Hid (MidG c n r j (elE n M' q2))) (fun _ i _ => n - (intOf i).toNat)
      case atStart => exact ⟨0, q + 1, A2, c2, _, by omega, by omega, rfl, rfl, HL2, HG2⟩
      case round =>
        clear HL2 HG2
        obtain ⟨j, q2, A1, cap1, M1, hj, hq2, rfl, rfl, HL, HG⟩ := hrel
        have hz := HL.out.size
        by_cases hjn : j < n
        · by_cases hjc : j = c
          · subst hjc
            go_wp2
            go_roundw
            case rel => exact ⟨j + 1, q2, A1, cap1, M1, by omega, by omega, by go_num, rfl, HL, midG_skip HG.out⟩
            case measure => simp [intOf]; omega
          · have e1 : ((j : Int) != (c : Int)) = true := by rw [bne_iff_ne]; omega
            have e2 : (j != c) = true := by simpa using hjc
            go_wp2_with (at_builtin; refine wpList_apMv rfl (.tmp 52) (.tmp 56) rfl w.heap.size rfl wr.heap.size _ _ _ _ rfl rfl (HL.out.own 0 _ rfl) rfl (by omega) HL.out.size ?_; intro A2 c2 w2 ho2 hg2 ha2
                         have HL2 := Lib.hid ((HL.out.alloc _).app 0 rfl ho2 hg2 ha2)
                         clear ho2 hg2 ha2)
            have HG2 : Hid (MidG c n r (j + 1) (elE n (M1.push q2 2 j c 0) (q2 + 1))) := by
              show MidG _ _ _ _ _
              rw [elE_push]
              exact midG_vote hcn hjn hjc HG.out
            go_roundw
            case rel => exact ⟨j + 1, q2 + 1, A2, c2, _, by omega, by omega, by go_num, rfl, HL2, HG2⟩
            case measure => simp [intOf]; omega
        · obtain rfl : j = n := by omega
          go_wp2
          go_roundw
          case rel => exact ⟨r + 1, q2, A1, cap1, M1, by omega, by omega, by go_num, rfl, HL, midG_end hn1 (by omega) HG.out⟩
          case measure => simp [intOf]; omega
    · obtain rfl : r = 11 := by omega
      have HRc := Lib.hid (stG_end HG.out)
      have hled : 0 < (elE n M1 q).led.length := List.length_pos_of_mem ((el_one_ (n := n) (by omega) M1 q).2 c HRc.out)
      go_wp2_with fail
      refine (el_good n q cap1 _ A1 M1 wr hn1 (by omega) (by omega) (Nat.le_refl _) (HL.out.own 0 _ rfl).rd).mono ?_
      rintro e w4 ⟨v, rfl, g, gl, b, AL, cL, AC, cC, AT, cT, AR, cR, AV, cV, rfl, hL4⟩
      have HL4 := Lib.hid (HL.out.join hL4)
      clear hL4 HL HG
      obtain ⟨gR, rfl, -⟩ := (HL4.out.own 5 _ rfl).pos1 (by show 0 < n; omega)
      have r1 := HL4.out.cell1 5 rfl (j := c) hcn
      rw [HRc.out] at r1
      have hgR := (HL4.out.at_ 5 rfl).2
      clear HRc
      generalize (elE n M1 q).led.length = ll at hled ⊢
      have hl2 : (0 : Int) < (ll : Int) := by omega
      go_wp2
      go_ret
      exact ⟨ret_bool (by simp; first | done | omega), HL4.out.bel.alloc HL4.out.size _⟩
theorem electGoes_small (n : Int) (k m cap : Nat) (A : Option Addr) (w : World) (hm : m ≤ maxLen) (h : n < 1 ∨ 3 < n ∨ 9 < m) :
    Calls Try.prog 5 #[.int .i64 n, .slice A m cap, .int .u8 k] w fun e w' => e = .returned (.bool true) ∧ Below w.heap.size w w' := by
  unfold maxLen at hm
  go_enter Try.func5, Try.ntmps5
  go_upto_region 3 with (fail)
  all_goals first
    | (exfalso; omega)
    | (go_wp2; go_ret; exact ⟨rfl, Below.refl _ _⟩)
    | (go_ret; exact ⟨rfl, Below.refl _ _⟩)
theorem electGoes_all (n : Int) (A : Option Addr) (m cap : Nat) (M : Mv) (k : Int) (w : World) (_ : (Lit.int .i64 n).wf = true) (hmc : m ≤ cap ∧ cap ≤ maxLen) (hr : Rd w w.heap.size A (m * 4) (mvF M)) (hk : (Lit.int .u8 k).wf = true) :
    Calls Try.prog 5 #[.int .i64 n, .slice A m cap, .int .u8 k] w fun e w' => e = .returned (.bool true) ∧ Below w.heap.size w w' := by
  obtain ⟨k, rfl, hk2⟩ := u8_nat hk
  by_cases h : n < 1 ∨ 3 < n ∨ 9 < m
  · exact electGoes_small n k m cap A w (by omega) h
  · obtain ⟨n, rfl⟩ := Int.eq_ofNat_of_zero_le (show 0 ≤ n by omega)
    exact electGoes_go n (k % n) k m cap A M w hr (by omega) (by omega) (by omega) hk2 rfl
end Go.Proofs.Ytlfffanadoldpaa
