/- The walks of the document's check of vectors, of Ints, and of the law VectorJoin. -/
import Derived.Test.YtkdookhblbjddaaVec1
set_option linter.unusedVariables false
set_option linter.unusedSimpArgs false
namespace Go.Proofs.Ytkdookhblbjddaa
open Go.RowKit

set_option maxRecDepth 100000 in
set_option maxHeartbeats 1600000 in
theorem vcheck2_any (f : Nat → Int) (n cap B : Nat) (A : Option Addr) (g : Nat → Int) (m cap2 B2 : Nat) (A2 : Option Addr) (w : World) (hn : n ≤ maxLen) (hm : m ≤ maxLen) (hB : B ≤ w.heap.size) (hB2 : B2 ≤ w.heap.size) (hr : Rd w B A n (numV f)) (hr2 : Rd w B2 A2 m (numV g)) :
    Calls Try.prog 23 #[.slice A n cap, .slice A2 m cap2] w fun e w' => e = .returned (.int .i64 (vecCode f n g m)) ∧ Below w.heap.size w w' := by
  unfold maxLen at hn hm
  obtain ⟨r, hrr⟩ : ∃ r, r = vecCode f n g m := ⟨_, rfl⟩
  rw [← hrr]
  unfold vecCode at hrr
  by_cases h1 : 1 ≤ n ∧ n ≤ 6
  case neg =>
    rw [if_neg h1] at hrr
    subst hrr
    have h1' : n < 1 ∨ 6 < n := by omega
    clear h1 hr hr2
    go_enter Try.func23, Try.ntmps23
    go_wp2
    all_goals first | (go_ret; exact ⟨rfl, Below.refl _ _⟩) | (exfalso; omega)
  rw [if_pos h1] at hrr
  obtain ⟨h1, h6⟩ := h1
  by_cases h2 : m = n
  case neg =>
    rw [if_neg h2] at hrr
    subst hrr
    have e1 : ((m : Int) != (n : Int)) = true := by simp; omega
    have e2 : (m != n) = true := by simpa using h2
    clear h2 hr hr2
    go_enter Try.func23, Try.ntmps23
    go_wp2
    go_ret
    exact ⟨rfl, Below.refl _ _⟩
  subst h2
  rw [if_pos rfl] at hrr
  obtain ⟨ad, rfl, hb, hc⟩ := hr (by omega)
  obtain ⟨ad2, rfl, hb2, hc2⟩ := hr2 (by omega)
  have HF : Hid (∀ W, Below w.heap.size w W → ∀ i, i < m → W.cell? (ad.add i) = some (.int .i64 (f i))) := fun W hbl i hi => (hbl.cell (by rw [addr_block]; omega)).trans (hc i hi)
  have HG : Hid (∀ W, Below w.heap.size w W → ∀ i, i < m → W.cell? (ad2.add i) = some (.int .i64 (g i))) := fun W hbl i hi => (hbl.cell (by rw [addr_block]; omega)).trans (hc2 i hi)
  have HR := Lib.hid hrr
  clear hr hr2 hrr hB hB2 hb hc hb2 hc2
  go_enter Try.func23, Try.ntmps23
  go_wp2
  have HL0 : Hid (Lay w (w.alloc (.cells #[.slice (some ad) m cap, .slice (some ad2) m cap2] 34)) [⟨some ⟨w.heap.size, 0, none⟩, 34, 1, 2, 2, ofL [.slice (some ad) m cap, .slice (some ad2) m cap2]⟩]) :=
    (Lay.nil w).new #[.slice (some ad) m cap, .slice (some ad2) m cap2] 34 1 2 _ _ rfl rfl (by unfold maxLen; omega) (fun j hj => ofL_arr [.slice (some ad) m cap, .slice (some ad2) m cap2] j (by simpa using hj))
  generalize w.heap.size = gb at HL0 ⊢
  go_loopw [26] (fun x wr => ∃ k : Nat, k ≤ 2 ∧ x = .int .i64 k ∧ Hid (1 ≤ k → negB f m = false) ∧ Hid (2 ≤ k → negB g m = false) ∧ Hid (Lay w wr [⟨some ⟨gb, 0, none⟩, 34, 1, 2, 2, ofL [.slice (some ad) m cap, .slice (some ad2) m cap2]⟩])) (fun x _ => 2 - (intOf x).toNat)
  case atStart => exact ⟨0, by omega, rfl, fun h => absurd h (by omega), fun h => absurd h (by omega), HL0.out⟩
  case round =>
    clear HL0
    obtain ⟨k, hk, rfl, HA, HB, HL⟩ := hrel
    rcases (by omega : k = 0 ∨ k = 1 ∨ k = 2) with rfl | rfl | rfl
    · have hcl := HL.out.cell1 0 rfl (j := 0) (by omega)
      simp only [ofL_0] at hcl
      go_wp2
      go_loopw [32] (fun x wr => ∃ j : Nat, j ≤ m ∧ x = .int .i64 j ∧ Hid (∀ i, i < j → (fun i => decide (f i < 0)) i = false) ∧ Hid (Lay w wr [⟨some ⟨gb, 0, none⟩, 34, 1, 2, 2, ofL [.slice (some ad) m cap, .slice (some ad2) m cap2]⟩])) (fun x _ => m - (intOf x).toNat)
      case atStart => exact ⟨0, by omega, rfl, fun i hi => absurd hi (by omega), HL.out⟩
      case round =>
        clear HL hcl
        obtain ⟨j, hj, rfl, HJ, HL⟩ := hrel
        by_cases hlt : j < m
        · have hcf := HF.out wr HL.out.bel j hlt
          by_cases hq : f j < 0
          · have HN : Hid (r = 4) := HR.out.trans (by rw [show negB f m = true from anyTo_iff.2 ⟨j, hlt, decide_eq_true hq⟩]; rfl)
            go_wp2
            go_ret
            exact ⟨ret_int HN.out.symm, HL.out.bel⟩
          · have HQ : Hid ((fun i => decide (f i < 0)) j = false) := decide_eq_false hq
            have hq : 0 ≤ f j := by omega
            go_wp2
            go_roundw
            case rel => exact ⟨j + 1, by omega, by go_num, fun i hi => (Nat.lt_succ_iff_lt_or_eq.1 hi).elim (HJ.out i) (fun e => by subst e; exact HQ.out), HL.out⟩
            case measure => simp [intOf]; omega
        · obtain rfl : j = m := by omega
          have HN : Hid (negB f j = false) := anyTo_no.2 HJ.out
          go_wp2
          go_roundw
          case rel => exact ⟨1, by omega, by go_num, fun _ => HN.out, fun h => absurd h (by omega), HL.out⟩
          case measure => simp [intOf]
    · have hcl := HL.out.cell1 0 rfl (j := 1) (by omega)
      simp only [ofL_1] at hcl
      have HA1 := Lib.hid (HA.out (Nat.le_refl _))
      go_wp2
      go_loopw [32] (fun x wr => ∃ j : Nat, j ≤ m ∧ x = .int .i64 j ∧ Hid (∀ i, i < j → (fun i => decide (g i < 0)) i = false) ∧ Hid (Lay w wr [⟨some ⟨gb, 0, none⟩, 34, 1, 2, 2, ofL [.slice (some ad) m cap, .slice (some ad2) m cap2]⟩])) (fun x _ => m - (intOf x).toNat)
      case atStart => exact ⟨0, by omega, rfl, fun i hi => absurd hi (by omega), HL.out⟩
      case round =>
        clear HL hcl
        obtain ⟨j, hj, rfl, HJ, HL⟩ := hrel
        by_cases hlt : j < m
        · have hcf := HG.out wr HL.out.bel j hlt
          by_cases hq : g j < 0
          · have HN : Hid (r = 4) := HR.out.trans (by rw [HA1.out, show negB g m = true from anyTo_iff.2 ⟨j, hlt, decide_eq_true hq⟩]; rfl)
            go_wp2
            go_ret
            exact ⟨ret_int HN.out.symm, HL.out.bel⟩
          · have HQ : Hid ((fun i => decide (g i < 0)) j = false) := decide_eq_false hq
            have hq : 0 ≤ g j := by omega
            go_wp2
            go_roundw
            case rel => exact ⟨j + 1, by omega, by go_num, fun i hi => (Nat.lt_succ_iff_lt_or_eq.1 hi).elim (HJ.out i) (fun e => by subst e; exact HQ.out), HL.out⟩
            case measure => simp [intOf]; omega
        · obtain rfl : j = m := by omega
          have HN : Hid (negB g j = false) := anyTo_no.2 HJ.out
          go_wp2
          go_roundw
          case rel => exact ⟨2, by omega, by go_num, fun _ => HA1.out, fun _ => HN.out, HL.out⟩
          case measure => simp [intOf]
    · have HN : Hid (r = 0) := HR.out.trans (by rw [HA.out (by omega), HB.out (by omega)]; rfl)
      go_wp2
      go_ret
      exact ⟨ret_int HN.out.symm, HL.out.bel⟩

set_option maxHeartbeats 800000 in
theorem ints_same (n cap B : Nat) (A : Option Addr) (f : Nat → Int) (cap2 B2 : Nat) (A2 : Option Addr) (g : Nat → Int) (w : World) (hn : 1 ≤ n ∧ n ≤ 6) (hr : Rd w B A n (numV f)) (hr2 : Rd w B2 A2 n (numV g)) (he : ∀ i, i < n → f i = g i) :
    Calls Try.prog 25 #[.slice A n cap, .slice A2 n cap2] w fun e w' => e = .returned (.bool true) ∧ Sim w w' := by
  obtain ⟨hn1, hn6⟩ := hn
  obtain ⟨ad, rfl, _, hc⟩ := hr (by omega)
  obtain ⟨ad2, rfl, _, hc2⟩ := hr2 (by omega)
  have HC : Hid (∀ W, Sim w W → ∀ i, i < n → W.cell? (ad.add i) = some (.int .i64 (f i))) := fun W hs i hi => by unfold World.cell?; rw [hs.1]; exact hc i hi
  have HC2 : Hid (∀ W, Sim w W → ∀ i, i < n → W.cell? (ad2.add i) = some (.int .i64 (f i))) := fun W hs i hi => by unfold World.cell?; rw [hs.1]; exact (hc2 i hi).trans (by rw [numV, he i hi])
  clear hr hr2 hc hc2 he
  go_enter Try.func25, Try.ntmps25
  go_wp2
  go_loopw [5] (fun x wr => ∃ j : Nat, j ≤ n ∧ x = .int .i64 j ∧ Hid (Sim w wr)) (fun x _ => n - (intOf x).toNat)
  case atStart => exact ⟨0, by omega, rfl, rfl, rfl, rfl, rfl⟩
  case round =>
    obtain ⟨j, hj, rfl, HS⟩ := hrel
    by_cases hlt : j < n
    · have h1 := HC.out wr HS.out j hlt
      have h2 := HC2.out wr HS.out j hlt
      go_wp2
      refine wp_text_all (by kernel_rfl) (by kernel_rfl) (by kernel_rfl) (by repeat' (first | (with_reducible apply tame_then) | (with_reducible apply tame_block) | (with_reducible apply tame_scope) | exact tame_gives | exact tame_body (fun _ _ h => ⟨_, h.1⟩))) ?_
      go_wp2
      refine headed ?_
      go_wp2
      go_roundw
      case rel => exact ⟨j + 1, by omega, by go_num, HS.out⟩
      case measure => simp [intOf]; omega
    · obtain rfl : j = n := by omega
      go_wp2
      go_ret
      exact ⟨rfl, HS.out⟩

set_option maxRecDepth 100000 in
set_option maxHeartbeats 3200000 in
theorem vectorJoin_good (n cap1 cap2 cap3 : Nat) (A1 A2 A3 : Option Addr) (a b c : Nat → Int) (w : World) (hn : 1 ≤ n ∧ n ≤ 6) (h1 : Rd w w.heap.size A1 n (numV a)) (h2 : Rd w w.heap.size A2 n (numV b)) (h3 : Rd w w.heap.size A3 n (numV c))
    (ha : negB a n = false) (hb : negB b n = false) (hc : negB c n = false) :
    Calls Try.prog 9 #[.slice A1 n cap1, .slice A2 n cap2, .slice A3 n cap3] w fun e w' => e = .returned (.bool true) ∧ Below w.heap.size w w' := by
  have H1 : Hid (∀ W, Below w.heap.size w W → Rd W w.heap.size A1 n (numV a)) := fun W hb => h1.below hb
  have H2 : Hid (∀ W, Below w.heap.size w W → Rd W w.heap.size A2 n (numV b)) := fun W hb => h2.below hb
  have H3 : Hid (∀ W, Below w.heap.size w W → Rd W w.heap.size A3 n (numV c)) := fun W hb => h3.below hb
  have HA := Lib.hid ha
  have HB := Lib.hid hb
  have HC := Lib.hid hc
  have HN := Lib.hid hn
  have hL : n ≤ maxLen := by unfold maxLen; omega
  have HLn := Lib.hid hL
  clear h1 h2 h3 ha hb hc hn hL
  go_enter Try.func9, Try.ntmps9
  go_wp2_with fail
  refine (Join_good n cap1 w.heap.size A1 a cap2 w.heap.size A2 b w HN.out (Nat.le_refl _) (Nat.le_refl _) (H1.out w (Below.refl _ _)) (H2.out w (Below.refl _ _)) (vecCode_mk HN.out HA.out HB.out)).mono ?_
  rintro e w1 ⟨v, rfl, g1, c1, rfl, hl⟩
  have L1 := Lib.hid hl; clear hl
  go_wp2_with fail
  refine (int_is_b (vcheck2_any a n cap1 w.heap.size A1 b n cap2 w.heap.size A2 w1 HLn.out HLn.out L1.out.size L1.out.size (H1.out _ L1.out.bel) (H2.out _ L1.out.bel)) (vecCode_mk HN.out HA.out HB.out)).mono ?_
  rintro e w2 ⟨rfl, hw⟩
  have L2 := Lib.hid (L1.out.keep hw); clear hw L1
  go_wp2_with fail
  refine (int_is_b (vcheck2_any a n cap1 w.heap.size A1 c n cap3 w.heap.size A3 w2 HLn.out HLn.out L2.out.size L2.out.size (H1.out _ L2.out.bel) (H3.out _ L2.out.bel)) (vecCode_mk HN.out HA.out HC.out)).mono ?_
  rintro e w3 ⟨rfl, hw⟩
  have L3 := Lib.hid (L2.out.keep hw); clear hw L2
  go_wp2_with fail
  refine (Join_good n cap2 w.heap.size A2 b cap1 w.heap.size A1 a w3 HN.out L3.out.size L3.out.size (H2.out w3 L3.out.bel) (H1.out w3 L3.out.bel) (vecCode_mk HN.out HB.out HA.out)).mono ?_
  rintro e w4 ⟨v, rfl, g2, c2, rfl, hl⟩
  have L4 := Lib.hid (L3.out.join hl); clear hl L3
  go_wp2_with fail
  refine (Join_good n cap2 w.heap.size A2 b cap3 w.heap.size A3 c w4 HN.out L4.out.size L4.out.size (H2.out w4 L4.out.bel) (H3.out w4 L4.out.bel) (vecCode_mk HN.out HB.out HC.out)).mono ?_
  rintro e w5 ⟨v, rfl, g3, c3, rfl, hl⟩
  have L5 := Lib.hid (L4.out.join hl); clear hl L4
  go_wp2_with fail
  refine (Join_good n c1 w5.heap.size _ (fun i => max (a i) (b i)) cap3 w.heap.size A3 c w5 HN.out (Nat.le_refl _) L5.out.size (L5.out.rd1 2 rfl) (H3.out w5 L5.out.bel) (vecCode_mk HN.out (negB_max HA.out) HC.out)).mono ?_
  rintro e w6 ⟨v, rfl, g4, c4, rfl, hl⟩
  have L6 := Lib.hid (L5.out.join hl); clear hl L5
  go_wp2_with fail
  refine (Join_good n cap1 w.heap.size A1 a c3 w6.heap.size _ (fun i => max (b i) (c i)) w6 HN.out L6.out.size (Nat.le_refl _) (H1.out w6 L6.out.bel) (L6.out.rd1 1 rfl) (vecCode_mk HN.out HA.out (negB_max HB.out))).mono ?_
  rintro e w7 ⟨v, rfl, g5, c5, rfl, hl⟩
  have L7 := Lib.hid (L6.out.join hl); clear hl L6
  go_wp2_with fail
  refine (Join_good n cap1 w.heap.size A1 a cap1 w.heap.size A1 a w7 HN.out L7.out.size L7.out.size (H1.out w7 L7.out.bel) (H1.out w7 L7.out.bel) (vecCode_mk HN.out HA.out HA.out)).mono ?_
  rintro e w8 ⟨v, rfl, g6, c6, rfl, hl⟩
  have L8 := Lib.hid (L7.out.join hl); clear hl L7
  go_wp2_with fail
  refine (less_no n c1 w8.heap.size _ (fun i => max (a i) (b i)) cap1 w.heap.size A1 a w8 HN.out (L8.out.rd1 5 rfl) (H1.out w8 L8.out.bel) (vecCode_mk HN.out (negB_max HA.out) HA.out) ?u).mono ?_
  case u =>
    unfold underB
    rw [anyTo_no.2]
    · rfl
    · intro j _
      refine decide_eq_false ?_
      simp only; omega
  rintro e w9 ⟨rfl, rfl⟩
  go_wp2_with fail
  refine (ints_same n c1 _ _ _ c2 _ _ _ _ HN.out (L8.out.rd1 5 rfl) (L8.out.rd1 4 rfl) (fun i _ => by first | omega | (dsimp only; omega))).mono ?_
  rintro e w10 ⟨rfl, hs⟩
  have L9 := Lib.hid (L8.out.sim hs); clear hs L8
  go_wp2_with fail
  refine (ints_same n c4 _ _ _ c5 _ _ _ _ HN.out (L9.out.rd1 2 rfl) (L9.out.rd1 1 rfl) (fun i _ => by first | omega | (dsimp only; omega))).mono ?_
  rintro e w11 ⟨rfl, hs⟩
  have L10 := Lib.hid (L9.out.sim hs); clear hs L9
  go_wp2_with fail
  refine (ints_same n c6 _ _ _ cap1 _ _ _ _ HN.out (L10.out.rd1 0 rfl) (H1.out _ L10.out.bel) (fun i _ => by first | omega | (dsimp only; omega))).mono ?_
  rintro e w12 ⟨rfl, hs⟩
  have L11 := Lib.hid (L10.out.sim hs); clear hs L10
  go_wp2
  go_ret
  exact ⟨rfl, L11.out.bel⟩
set_option maxRecDepth 100000 in
set_option maxHeartbeats 1600000 in
theorem vectorJoin_all (A1 : Option Addr) (n1 cap1 : Nat) (a : Nat → Int) (A2 : Option Addr) (n2 cap2 : Nat) (b : Nat → Int) (A3 : Option Addr) (n3 cap3 : Nat) (c : Nat → Int) (w : World)
    (hm1 : n1 ≤ cap1 ∧ cap1 ≤ maxLen) (_ : ∀ j, j < n1 → (Lit.int .i64 (a j)).wf = true) (h1 : Rd w w.heap.size A1 n1 (numV a))
    (hm2 : n2 ≤ cap2 ∧ cap2 ≤ maxLen) (_ : ∀ j, j < n2 → (Lit.int .i64 (b j)).wf = true) (h2 : Rd w w.heap.size A2 n2 (numV b))
    (hm3 : n3 ≤ cap3 ∧ cap3 ≤ maxLen) (_ : ∀ j, j < n3 → (Lit.int .i64 (c j)).wf = true) (h3 : Rd w w.heap.size A3 n3 (numV c)) :
    Calls Try.prog 9 #[.slice A1 n1 cap1, .slice A2 n2 cap2, .slice A3 n3 cap3] w fun e w' => e = .returned (.bool true) ∧ Below w.heap.size w w' := by
  by_cases hx : vecCode a n1 b n2 = 0
  case neg =>
    have HJ := Lib.hid (Join_bad n1 n2 cap1 w.heap.size A1 a cap2 w.heap.size A2 b w (by omega) (by omega) h1 h2 hx)
    have HC := Lib.hid (vcheck2_any a n1 cap1 w.heap.size A1 b n2 cap2 w.heap.size A2 w (by omega) (by omega) (Nat.le_refl _) (Nat.le_refl _) h1 h2)
    generalize vecCode a n1 b n2 = e at HJ HC hx
    have he : (e != 0) = true := by simpa using hx
    clear h1 h2 h3 hx hm1 hm2 hm3
    go_enter Try.func9, Try.ntmps9
    go_wp2_with fail
    refine HJ.out.mono ?_
    rintro e w1 ⟨rfl, rfl⟩
    go_wp2_with fail
    refine HC.out.mono ?_
    rintro e w2 ⟨rfl, hw⟩
    have HW := Lib.hid hw; clear hw
    go_wp2
    go_ret
    exact ⟨rfl, HW.out⟩
  obtain ⟨hn, rfl, ha, hb⟩ := vecCode_0 hx
  by_cases hy : vecCode a n2 c n3 = 0
  · obtain ⟨_, rfl, _, hc⟩ := vecCode_0 hy
    exact vectorJoin_good n3 cap1 cap2 cap3 A1 A2 A3 a b c w hn h1 h2 h3 ha hb hc
  have HJ := Lib.hid (Join_good n2 cap1 w.heap.size A1 a cap2 w.heap.size A2 b w hn (Nat.le_refl _) (Nat.le_refl _) h1 h2 hx)
  have HC := Lib.hid (fun (W : World) (hb : Below w.heap.size w W) => int_is_b (vcheck2_any a n2 cap1 w.heap.size A1 b n2 cap2 w.heap.size A2 W (by omega) (by omega) hb.size hb.size (h1.below hb) (h2.below hb)) hx)
  have HC2 := Lib.hid (fun (W : World) (hb : Below w.heap.size w W) => vcheck2_any a n2 cap1 w.heap.size A1 c n3 cap3 w.heap.size A3 W (by omega) (by omega) hb.size hb.size (h1.below hb) (h3.below hb))
  generalize vecCode a n2 c n3 = e at HC2 hy
  have he : (e != 0) = true := by simpa using hy
  clear h1 h2 h3 hx hy hm1 hm2 hm3 ha hb hn
  go_enter Try.func9, Try.ntmps9
  go_wp2_with fail
  refine HJ.out.mono ?_
  rintro e w1 ⟨v, rfl, g1, c1, rfl, hl⟩
  have L1 := Lib.hid hl; clear hl
  go_wp2_with fail
  refine (HC.out w1 L1.out.bel).mono ?_
  rintro e w2 ⟨rfl, hw⟩
  have L2 := Lib.hid (L1.out.keep hw); clear hw L1
  go_wp2_with fail
  refine (HC2.out w2 L2.out.bel).mono ?_
  rintro e w3 ⟨rfl, hw⟩
  have L3 := Lib.hid (L2.out.keep hw); clear hw L2
  go_wp2
  go_ret
  exact ⟨rfl, L3.out.bel⟩
end Go.Proofs.Ytkdookhblbjddaa
