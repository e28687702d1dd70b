/- The law CutJoin, walked. -/
import Derived.Test.YtkdookhblbjddaaCut1
set_option linter.unusedVariables false
set_option linter.unusedSimpArgs false
namespace Go.Proofs.Ytkdookhblbjddaa
open Go.RowKit

set_option maxRecDepth 100000 in
set_option maxHeartbeats 1000000 in
theorem cutJoin_out (n : Int) (A : Option Addr) (len cap : Nat) (E : Ev) (A1 : Option Addr) (m1 cap1 : Nat) (a : Nat → Int) (A2 : Option Addr) (m2 cap2 : Nat) (b : Nat → Int) (w : World)
    (hlen : len ≤ maxLen) (hm1 : m1 ≤ maxLen) (hm2 : m2 ≤ maxLen) (hr : Rd w w.heap.size A (len * 3) (evF E)) (hr1 : Rd w w.heap.size A1 m1 (numV a)) (hr2 : Rd w w.heap.size A2 m2 (numV b))
    (hno : ¬ ∃ k : Nat, n = k ∧ runCode n E len = 0 ∧ CutOk k E len a m1 ∧ CutOk k E len b m2) :
    Calls Try.prog 12 #[.int .i64 n, .slice A len cap, .slice A1 m1 cap1, .slice A2 m2 cap2] w fun e w' => e = .returned (.bool true) ∧ Below w.heap.size w w' := by
  have HI1 := Lib.hid (is_any n A len cap w.heap.size E A1 m1 cap1 a w hlen hm1 (Nat.le_refl _) hr hr1)
  have HI2 := Lib.hid (fun (W : World) (hb : Below w.heap.size w W) => is_any n A len cap w.heap.size E A2 m2 cap2 b W hlen hm2 hb.size (hr.below hb) (hr2.below hb))
  have HNO := Lib.hid hno
  clear hno hr hr1 hr2
  go_enter Try.func12, Try.ntmps12
  go_wp2_with fail
  refine HI1.out.mono ?_
  rintro e w1 ⟨v, rfl, x, c, rfl, h1, hb⟩
  have HB1 := Lib.hid hb; clear hb HI1
  have H1 := Lib.hid h1; clear h1
  go_wp2_with fail
  refine (HI2.out w1 HB1.out).mono ?_
  rintro e w2 ⟨v, rfl, y, d, rfl, h2, hb⟩
  have HB2 := Lib.hid (HB1.out.trans (hb.mono HB1.out.size)); clear hb HI2 HB1
  have H2 := Lib.hid h2; clear h2
  by_cases h0 : c = 0
  · by_cases h00 : d = 0
    · exfalso
      obtain ⟨k, rfl, hg, hk⟩ := H1.out.2.1.1 h0
      obtain ⟨k', e, _, hk'⟩ := H2.out.2.1.1 h00
      obtain rfl := Int.ofNat_inj.1 e
      exact HNO.out ⟨k, rfl, hg, hk, hk'⟩
    · obtain rfl : y = false := H2.out.1 h00
      obtain ⟨k, rfl, _, hk, _⟩ := H1.out.2.1.1 h0
      subst h0
      subst hk
      have hd : (d == 0) = false := by simpa using h00
      have hd2 : (d != 0) = true := by simpa using h00
      clear h00
      go_wp2
      go_ret
      exact ⟨rfl, HB2.out⟩
  · obtain rfl : x = false := H1.out.1 h0
    have hc : (c == 0) = false := by simpa using h0
    have hc2 : (c != 0) = true := by simpa using h0
    clear h0
    by_cases h00 : d = 0
    · subst h00
      go_wp2
      go_ret
      exact ⟨rfl, HB2.out⟩
    · obtain rfl : y = false := H2.out.1 h00
      have hd : (d == 0) = false := by simpa using h00
      have hd2 : (d != 0) = true := by simpa using h00
      clear h00
      go_wp2
      go_ret
      exact ⟨rfl, HB2.out⟩
def moreF (a b : Nat → Int) (q : Nat) : Int := if a q < b q then b q else a q
def lessF (a b : Nat → Int) (q : Nat) : Int := if a q < b q then a q else b q
def tillF (f : Nat → Int) (j q : Nat) : Int := if q < j then f q else 0
theorem till_step (f : Nat → Int) (j t : Nat) : tillF f (j + 1) t = if t = j then f j else tillF f j t := by
  unfold tillF
  by_cases e : t = j
  · subst e; rw [if_pos (by omega), if_pos rfl]
  · rw [if_neg e]
    by_cases h : t < j
    · rw [if_pos (by omega), if_pos h]
    · rw [if_neg (by omega), if_neg h]
set_option maxRecDepth 100000 in
set_option maxHeartbeats 2000000 in
theorem cutJoin_in (n : Nat) (A : Option Addr) (len cap : Nat) (E : Ev) (A1 : Option Addr) (cap1 : Nat) (a : Nat → Int) (A2 : Option Addr) (cap2 : Nat) (b : Nat → Int) (w : World)
    (hlen : len ≤ maxLen) (hr : Rd w w.heap.size A (len * 3) (evF E)) (hr1 : Rd w w.heap.size A1 n (numV a)) (hr2 : Rd w w.heap.size A2 n (numV b))
    (hg : runCode n E len = 0) (ha : CutOk n E len a n) (hb : CutOk n E len b n) :
    Calls Try.prog 12 #[.int .i64 (n : Nat), .slice A len cap, .slice A1 n cap1, .slice A2 n cap2] w fun e w' => e = .returned (.bool true) ∧ Below w.heap.size w w' := by
  obtain ⟨⟨n1, n6, l30⟩, _⟩ := runCode_ok hg
  have IS : ∀ (W : World) (A3 : Option Addr) (c3 : Nat) (c : Nat → Int), Below w.heap.size w W → Rd W W.heap.size A3 n (numV c) → CutOk n E len c n →
      Calls Try.prog 27 #[.int .i64 (n : Nat), .slice A len cap, .slice A3 n c3] W (Gives fun v w' => ∃ x : Bool, v = .tuple #[.bool x, .int .i64 0] ∧ (x = true ↔ WholeC E c len) ∧ Below W.heap.size W w') := by
    intro W A3 c3 c hb3 hr3 hk
    refine (is_any n A len cap W.heap.size E A3 n c3 c W hlen (by unfold maxLen; omega) (Nat.le_refl _) ((hr.below hb3).more hb3.size) hr3).mono ?_
    rintro e w' ⟨v, rfl, x, y, rfl, h, hb4⟩
    obtain rfl : y = 0 := h.2.1.2 ⟨n, rfl, hg, hk⟩
    exact ⟨_, rfl, x, rfl, h.2.2 rfl, hb4⟩
  have HIS := Lib.hid IS; clear IS
  have HA := Lib.hid ha
  have HBB := Lib.hid hb
  have HR1 := Lib.hid hr1
  have HR2 := Lib.hid hr2
  have HC1 : Hid (∀ W, Below w.heap.size w W → ∀ q, q < n → ∃ ad, A1 = some ad ∧ W.cell? (ad.add q) = some (.int .i64 (a q)) ∧ (ad.add q).block < w.heap.size) := Lib.hid fun W hb q hq => by
    obtain ⟨ad, e, h1, h2⟩ := hr1 (by omega)
    exact ⟨ad, e, (hb.cell (by rw [addr_block]; exact h1)).trans (h2 q hq), by rw [addr_block]; exact h1⟩
  have HC2 : Hid (∀ W, Below w.heap.size w W → ∀ q, q < n → ∃ ad, A2 = some ad ∧ W.cell? (ad.add q) = some (.int .i64 (b q)) ∧ (ad.add q).block < w.heap.size) := Lib.hid fun W hb q hq => by
    obtain ⟨ad, e, h1, h2⟩ := hr2 (by omega)
    exact ⟨ad, e, (hb.cell (by rw [addr_block]; exact h1)).trans (h2 q hq), by rw [addr_block]; exact h1⟩
  clear ha hb hr1 hr2 hr hg hlen
  obtain ⟨iI, hiI, hzI0, hzI1, hzI2⟩ := info_parts infoIV
  go_enter Try.func12, Try.ntmps12
  go_wp2_with fail
  refine (HIS.out w A1 cap1 a (Below.refl _ _) HR1.out HA.out).mono ?_
  rintro e w1 ⟨v, rfl, x, rfl, hx, hb⟩
  have HB1 := Lib.hid hb; clear hb
  have HX := Lib.hid hx; clear hx
  go_wp2_with fail
  refine (HIS.out w1 A2 cap2 b HB1.out ((HR2.out.below HB1.out).more HB1.out.size) HBB.out).mono ?_
  rintro e w2 ⟨v, rfl, y, rfl, hy, hb⟩
  have HL2 := Lib.hid ((Lay.nil w).keep (HB1.out.trans (hb.mono HB1.out.size))); clear hb HB1
  have HY := Lib.hid hy; clear hy
  go_wp2_with (first
    | (at_make; refine wpList_mk1 rfl (.tmp 77) (.tmp 77) _ rfl 3 iI _ 8 Try.underlying34 hiI hzI0 hzI1 hzI2 rfl .i64 .i64 n rfl rfl (by omega) (by unfold maxLen; omega) w.heap.size _ rfl HL2.out.size ?_
       intro w3 ho2 he2
       have HL3 : Hid (Lay w w3 [arr w2.heap.size 3 n (numV (tillF (moreF a b) 0))]) := by rw [he2]; exact HL2.out.make (.int .i64 0) rfl n (by unfold maxLen; omega) _ _ (fun q _ => rfl) _ rfl
       clear ho2 he2
       generalize w2.heap.size = g1 at HL3 ⊢)
    | (at_make; refine wpList_mk1 rfl (.tmp 79) (.tmp 79) _ rfl 3 iI _ 8 Try.underlying34 hiI hzI0 hzI1 hzI2 rfl .i64 .i64 n rfl rfl (by omega) (by unfold maxLen; omega) w.heap.size _ rfl HL3.out.size ?_
       intro w4 ho2 he2
       have HL4 : Hid (Lay w w4 [arr w3.heap.size 3 n (numV (tillF (lessF a b) 0)), arr g1 3 n (numV (tillF (moreF a b) 0))]) := by rw [he2]; exact HL3.out.make (.int .i64 0) rfl n (by unfold maxLen; omega) _ _ (fun q _ => rfl) _ rfl
       clear ho2 he2
       generalize w3.heap.size = g2 at HL4 ⊢)
    | fail)
  clear HL2 HL3
  go_loopw [15] (fun i wr => ∃ j : Nat, i = .int .i64 j ∧ j ≤ n ∧ Hid (Lay w wr [arr g2 3 n (numV (tillF (lessF a b) j)), arr g1 3 n (numV (tillF (moreF a b) j))])) (fun i _ => n - (intOf i).toNat)
  case atStart => exact ⟨0, rfl, by omega, HL4⟩
  case round =>
    clear HL4
    obtain ⟨j, rfl, hj, HL⟩ := hrel
    by_cases hlt : j < n
    · obtain ⟨ad1, rfl, c1, b1⟩ := HC1.out wr HL.out.bel j hlt
      obtain ⟨ad2, rfl, c2, b2⟩ := HC2.out wr HL.out.bel j hlt
      have hck1 := HL.out.cell1 1 rfl hlt
      have hfz1 := HL.out.frz 1 rfl (by omega) j
      obtain ⟨lg1, hga1⟩ := HL.out.at_ 1 rfl
      have hck2 := HL.out.cell1 0 rfl hlt
      have hfz2 := HL.out.frz 0 rfl (by omega) j
      obtain ⟨lg2, hga2⟩ := HL.out.at_ 0 rfl
      have hne := HL.out.ne_ 0 1 rfl rfl (by decide)
      have hn1 : (ad1.add j).block ≠ g1 := by omega
      have hn2 : (ad1.add j).block ≠ g2 := by omega
      have hn3 : (ad2.add j).block ≠ g1 := by omega
      have hn4 : (ad2.add j).block ≠ g2 := by omega
      have hzz := HL.out.size
      have f11 : ∀ W x, (World.setCell W ⟨g1, j, none⟩ x).cell? (ad1.add j) = W.cell? (ad1.add j) := fun W x => World.cell?_setCell_other W _ _ x (fun e => hn1 (by rw [← e]))
      have f12 : ∀ W x, (World.setCell W ⟨g2, j, none⟩ x).cell? (ad1.add j) = W.cell? (ad1.add j) := fun W x => World.cell?_setCell_other W _ _ x (fun e => hn2 (by rw [← e]))
      have f21 : ∀ W x, (World.setCell W ⟨g1, j, none⟩ x).cell? (ad2.add j) = W.cell? (ad2.add j) := fun W x => World.cell?_setCell_other W _ _ x (fun e => hn3 (by rw [← e]))
      have f22 : ∀ W x, (World.setCell W ⟨g2, j, none⟩ x).cell? (ad2.add j) = W.cell? (ad2.add j) := fun W x => World.cell?_setCell_other W _ _ x (fun e => hn4 (by rw [← e]))
      clear hn1 hn2 hn3 hn4 b1 b2
      have HFIN : Hid (∀ W, Lay w W [arr g2 3 n (numV (upd (tillF (lessF a b) j) j (lessF a b j))), arr g1 3 n (numV (upd (tillF (moreF a b) j) j (moreF a b j)))] → Lay w W [arr g2 3 n (numV (tillF (lessF a b) (j + 1))), arr g1 3 n (numV (tillF (moreF a b) (j + 1)))]) := Lib.hid fun W h => by
        have e1 : upd (tillF (lessF a b) j) j (lessF a b j) = tillF (lessF a b) (j + 1) := by funext t; rw [till_step, upd_apply]
        have e2 : upd (tillF (moreF a b) j) j (moreF a b j) = tillF (moreF a b) (j + 1) := by funext t; rw [till_step, upd_apply]
        rw [e1, e2] at h
        exact h
      have HM : Hid (moreF a b j = if a j < b j then b j else a j) := Lib.hid rfl
      have HLE : Hid (lessF a b j = if a j < b j then a j else b j) := Lib.hid rfl
      obtain ⟨p, hp⟩ : ∃ p, a j = p := ⟨_, rfl⟩
      obtain ⟨q, hq⟩ : ∃ q, b j = q := ⟨_, rfl⟩
      rw [hp] at c1 HM HLE
      rw [hq] at c2 HM HLE
      clear hp hq
      have uu : ∀ (f : Nat → Int) (x y : Int), upd (upd f j x) j y = upd f j y := fun f x y => by
        funext t
        simp only [upd_apply]
        split <;> rfl
      by_cases hpq : p < q
      · rw [if_pos hpq] at HM HLE
        rw [HM.out, HLE.out] at HFIN
        have h4 := (((HL.out.upd (mk := fun x : Int => Value.int .i64 x) 1 p rfl hlt).upd (mk := fun x : Int => Value.int .i64 x) 0 q rfl hlt).upd (mk := fun x : Int => Value.int .i64 x) 1 q rfl hlt).upd (mk := fun x : Int => Value.int .i64 x) 0 p rfl hlt
        simp only [uu] at h4
        have H4 := Lib.hid h4
        clear h4 uu
        go_wp2
        refine wp_text_all (by kernel_rfl) (by kernel_rfl) (by kernel_rfl) (by repeat' (first | (with_reducible apply tame_then) | (with_reducible apply tame_block) | (with_reducible apply tame_scope) | exact tame_gives | exact tame_body (fun _ _ h => ⟨_, h.1⟩))) ?_
        go_wp2
        refine headed ?_
        go_wp2
        go_roundw
        case rel => exact ⟨j + 1, by go_num, by omega, Lib.hid (HFIN.out _ (H4.out.sim ⟨rfl, rfl, rfl, rfl⟩))⟩
        case measure => simp [intOf]; omega
      · rw [if_neg hpq] at HM HLE
        rw [HM.out, HLE.out] at HFIN
        have H4 := Lib.hid ((HL.out.upd (mk := fun x : Int => Value.int .i64 x) 1 p rfl hlt).upd (mk := fun x : Int => Value.int .i64 x) 0 q rfl hlt)
        clear uu
        go_wp2
        refine wp_text_all (by kernel_rfl) (by kernel_rfl) (by kernel_rfl) (by repeat' (first | (with_reducible apply tame_then) | (with_reducible apply tame_block) | (with_reducible apply tame_scope) | exact tame_gives | exact tame_body (fun _ _ h => ⟨_, h.1⟩))) ?_
        go_wp2
        refine headed ?_
        go_wp2
        go_roundw
        case rel => exact ⟨j + 1, by go_num, by omega, Lib.hid (HFIN.out _ (H4.out.sim ⟨rfl, rfl, rfl, rfl⟩))⟩
        case measure => simp [intOf]; omega
    · obtain rfl : j = n := by omega
      have HM : Hid (Rd wr wr.heap.size (some ⟨g1, 0, none⟩) j (numV (fun q => if a q < b q then b q else a q))) := Lib.hid ((HL.out.rd1 1 rfl).congr fun t ht => by
        show Value.int .i64 (tillF (moreF a b) j t) = _
        rw [tillF, if_pos ht]; rfl)
      have HLS : Hid (Rd wr wr.heap.size (some ⟨g2, 0, none⟩) j (numV (fun q => if a q < b q then a q else b q))) := Lib.hid ((HL.out.rd1 0 rfl).congr fun t ht => by
        show Value.int .i64 (tillF (lessF a b) j t) = _
        rw [tillF, if_pos ht]; rfl)
      have HBW := Lib.hid HL.out.bel
      clear HL
      go_wp2_with fail
      refine (HIS.out wr _ j _ HBW.out HM.out (cutOk_max HA.out HBB.out)).mono ?_
      rintro e w5 ⟨v, rfl, s, rfl, hs, hb⟩
      have HS := Lib.hid hs; clear hs
      have HB5 := Lib.hid (HBW.out.trans (hb.mono HBW.out.size))
      have HLS2 := Lib.hid ((HLS.out.below hb).more hb.size); clear hb HLS HM
      go_wp2_with fail
      refine (HIS.out w5 _ j _ HB5.out HLS2.out (cutOk_min HA.out HBB.out)).mono ?_
      rintro e w6 ⟨v, rfl, t, rfl, ht, hb⟩
      have HT := Lib.hid ht; clear ht
      have HB6 := Lib.hid (HB5.out.trans (hb.mono HB5.out.size)); clear hb HLS2
      go_wp2_with (first
        | (at_make; refine wpList_mk1 rfl (.tmp 140) (.tmp 140) _ rfl 3 iI _ 8 Try.underlying34 hiI hzI0 hzI1 hzI2 rfl .i64 .i64 j rfl rfl (by omega) (by unfold maxLen; omega) w.heap.size _ rfl HB6.out.size ?_
           intro w7 ho2 he2
           have HL7 : Hid (Lay w w7 [arr w6.heap.size 3 j (numV (fun _ => 0))]) := by rw [he2]; exact ((Lay.nil w).keep HB6.out).make (.int .i64 0) rfl j (by unfold maxLen; omega) _ _ (fun q _ => rfl) _ rfl
           clear ho2 he2)
        | fail)
      refine (HIS.out w7 _ j _ HL7.out.bel (HL7.out.rd1 0 rfl) (cutOk_zero j E len)).mono ?_
      rintro e w8 ⟨v, rfl, z, rfl, hz, hb⟩
      obtain rfl : z = true := hz.2 (whole_zero len)
      have HB8 := Lib.hid (HL7.out.bel.trans (hb.mono HL7.out.size)); clear hb hz
      have HST : Hid (x = true → y = true → s = true ∧ t = true) := Lib.hid fun h1 h2 => ⟨HS.out.2 (whole_max (HX.out.1 h1) (HY.out.1 h2)), HT.out.2 (whole_min (HX.out.1 h1) (HY.out.1 h2))⟩
      clear HL7 HX HY HS HT
      cases x
      · go_wp2
        go_ret
        exact ⟨rfl, HB8.out⟩
      · cases y
        · go_wp2
          go_ret
          exact ⟨rfl, HB8.out⟩
        · obtain ⟨rfl, rfl⟩ := HST.out rfl rfl
          go_wp2
          go_ret
          exact ⟨rfl, HB8.out⟩
theorem cutJoin_all (n : Int) (A : Option Addr) (len cap : Nat) (E : Ev) (A1 : Option Addr) (m1 cap1 : Nat) (a : Nat → Int) (A2 : Option Addr) (m2 cap2 : Nat) (b : Nat → Int) (w : World)
    (_ : (Lit.int .i64 n).wf = true) (hmc : len ≤ cap ∧ cap ≤ maxLen) (hr : Rd w w.heap.size A (len * 3) (evF E))
    (hm1 : m1 ≤ cap1 ∧ cap1 ≤ maxLen) (_ : ∀ j, j < m1 → (Lit.int .i64 (a j)).wf = true) (hr1 : Rd w w.heap.size A1 m1 (numV a))
    (hm2 : m2 ≤ cap2 ∧ cap2 ≤ maxLen) (_ : ∀ j, j < m2 → (Lit.int .i64 (b j)).wf = true) (hr2 : Rd w w.heap.size A2 m2 (numV b)) :
    Calls Try.prog 12 #[.int .i64 n, .slice A len cap, .slice A1 m1 cap1, .slice A2 m2 cap2] w fun e w' => e = .returned (.bool true) ∧ Below w.heap.size w w' := by
  by_cases h : ∃ k : Nat, n = k ∧ runCode n E len = 0 ∧ CutOk k E len a m1 ∧ CutOk k E len b m2
  · obtain ⟨k, rfl, hg, ha, hb⟩ := h
    obtain rfl := ha.1
    obtain rfl := hb.1
    exact cutJoin_in _ A len cap E A1 cap1 a A2 cap2 b w (by omega) hr hr1 hr2 hg ha hb
  · exact cutJoin_out n A len cap E A1 m1 cap1 a A2 m2 cap2 b w (by omega) (by omega) (by omega) hr hr1 hr2 h
end Go.Proofs.Ytkdookhblbjddaa
