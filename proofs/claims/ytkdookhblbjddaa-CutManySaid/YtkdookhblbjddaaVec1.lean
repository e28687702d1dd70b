/- The walks of vector.Join and Less, and of the document's check. -/
import Derived.Test.YtkdookhblbjddaaLay
import Derived.Test.YtkdookhblbjddaaText
set_option linter.unusedVariables false
set_option linter.unusedSimpArgs false
namespace Go.Proofs.Ytkdookhblbjddaa
open Go.RowKit

abbrev numV (f : Nat → Int) : Nat → Value := fun i => .int .i64 (f i)
def negB (f : Nat → Int) (n : Nat) : Bool := anyTo (fun j => decide (f j < 0)) n
def vecCode (f : Nat → Int) (n : Nat) (g : Nat → Int) (m : Nat) : Int := if 1 ≤ n ∧ n ≤ 6 then (if m = n then (if negB f n || negB g m then 4 else 0) else 3) else 1
theorem vecCode_0 {f : Nat → Int} {n : Nat} {g : Nat → Int} {m : Nat} (h : vecCode f n g m = 0) : (1 ≤ n ∧ n ≤ 6) ∧ m = n ∧ negB f n = false ∧ negB g m = false := by
  unfold vecCode at h
  split at h
  case isFalse => cases h
  rename_i h1
  split at h
  case isFalse => cases h
  rename_i h2
  split at h
  case isTrue => cases h
  rename_i h3
  cases ha : negB f n <;> cases hb : negB g m <;> simp_all
theorem vecCode_mk {f : Nat → Int} {n : Nat} {g : Nat → Int} (h1 : 1 ≤ n ∧ n ≤ 6) (h2 : negB f n = false) (h3 : negB g n = false) : vecCode f n g n = 0 := by
  rw [vecCode, if_pos h1, if_pos rfl, h2, h3]; rfl
theorem negB_max {f g : Nat → Int} {n : Nat} (h : negB f n = false) : negB (fun i => max (f i) (g i)) n = false := by
  refine anyTo_no.2 fun j hj => decide_eq_false ?_
  have := anyTo_no.1 h j hj
  simp only [decide_eq_false_iff_not] at this
  simp only; omega
def minV (f : Nat → Int) : Nat → Int
  | 0 => f 0
  | k + 1 => min (minV f k) (f (k + 1))
theorem minV_neg (f : Nat → Int) : ∀ k, decide (minV f k < 0) = negB f (k + 1)
  | 0 => by rw [Bool.eq_iff_iff]; simp [minV, negB, anyTo]; exact decide_eq_true_iff
  | k + 1 => by
    have ih := minV_neg f k
    show decide (min (minV f k) (f (k + 1)) < 0) = (anyTo (fun j => decide (f j < 0)) (k + 1) || decide (f (k + 1) < 0))
    rw [show anyTo (fun j => decide (f j < 0)) (k + 1) = negB f (k + 1) from rfl, ← ih, ← Bool.decide_or]
    congr 1
    rw [eq_iff_iff]; omega
theorem vimin (a b : Int) : (if b < a then b else a) = min a b := by omega
theorem vimax (a b : Int) : (if a < b then b else a) = max a b := by omega
theorem infoIV : (Try.prog.info? 3).map (fun i => (i.zero, i.size, i.bytes)) = some (some (.int .i64 0), 1, 8) := by kernel_rfl

set_option maxHeartbeats 400000 in
theorem min_any (n cap B : Nat) (A : Option Addr) (f : Nat → Int) (w : World) (hn : 1 ≤ n ∧ n ≤ 6) (hr : Rd w B A n (numV f)) :
    Calls Try.prog 40 #[.slice A n cap] w (Gives fun v w' => ∃ x : Int, v = .int .i64 x ∧ decide (x < 0) = negB f n ∧ w = w') := by
  obtain ⟨hn1, hn6⟩ := hn
  obtain ⟨ad, rfl, _, hc⟩ := hr (by omega)
  have HC := Lib.hid hc
  have h0 : w.cell? ad = some (.int .i64 (f 0)) := by have := hc 0 (by omega); simpa [Addr.add] using this
  clear hc hr
  go_enter Try.func40, Try.ntmps40
  go_wp2
  clear h0
  go_loop [4, 3] (fun i m => ∃ k : Nat, k + 1 ≤ n ∧ i = .int .i64 ((k + 1 : Nat) : Int) ∧ m = .int .i64 (minV f k)) (fun i _ => n - (intOf i).toNat)
  case atStart => exact ⟨0, by omega, rfl, rfl⟩
  case round =>
    obtain ⟨k, hk, rfl, rfl⟩ := hrel
    by_cases hlt : k + 1 < n
    · have hck : w.cell? ⟨ad.block, ad.off + (k + 1), none⟩ = some (.int .i64 (f (k + 1))) := by have := HC.out (k + 1) hlt; simpa [Addr.add] using this
      have HM : Hid (minV f (k + 1) = min (minV f k) (f (k + 1))) := rfl
      go_wp2
      go_round
      case rel => exact ⟨k + 1, by omega, by go_num, by rw [HM.out, vimin]⟩
      case measure => simp [intOf]; omega
    · obtain rfl : k + 1 = n := by omega
      have HM := Lib.hid (minV_neg f k)
      go_wp2
      go_ret
      exact ⟨_, rfl, _, rfl, HM.out, rfl⟩

set_option maxHeartbeats 400000 in
theorem vcheck_any (f : Nat → Int) (n cap B : Nat) (A : Option Addr) (g : Nat → Int) (m cap2 B2 : Nat) (A2 : Option Addr) (w : World) (hn : n ≤ maxLen) (hm : m ≤ maxLen) (hr : Rd w B A n (numV f)) (hr2 : Rd w B2 A2 m (numV g)) :
    Calls Try.prog 34 #[.slice A n cap, .slice A2 m cap2] w fun e w' => e = .returned (.int .i64 (vecCode f n g m)) ∧ w = w' := by
  unfold maxLen at hn hm
  obtain ⟨r, hrr⟩ : ∃ r, r = vecCode f n g m := ⟨_, rfl⟩
  rw [← hrr]
  unfold vecCode at hrr
  by_cases h1 : 1 ≤ n ∧ n ≤ 6
  case neg =>
    rw [if_neg h1] at hrr
    subst hrr
    have h1' : n < 1 ∨ 6 < n := by omega
    clear h1 hr hr2
    go_enter Try.func34, Try.ntmps34
    go_wp2
    all_goals first | (go_ret; exact ⟨rfl, rfl⟩) | (exfalso; omega)
  rw [if_pos h1] at hrr
  obtain ⟨h1, h6⟩ := h1
  by_cases h2 : m = n
  case neg =>
    rw [if_neg h2] at hrr
    subst hrr
    have e1 : ((m : Int) != (n : Int)) = true := by simp; omega
    have e2 : (m != n) = true := by simpa using h2
    clear h2 hr hr2
    go_enter Try.func34, Try.ntmps34
    go_wp2
    go_ret
    exact ⟨rfl, rfl⟩
  subst h2
  rw [if_pos rfl] at hrr
  have HM1 := Lib.hid (min_any m cap B A f w ⟨h1, h6⟩ hr)
  have HM2 := Lib.hid (min_any m cap2 B2 A2 g w ⟨h1, h6⟩ hr2)
  have HR := Lib.hid hrr
  clear hr hr2 hrr
  go_enter Try.func34, Try.ntmps34
  go_wp2_with fail
  refine HM1.out.mono ?_
  rintro e w1 ⟨v, rfl, x, rfl, hx, rfl⟩
  cases hb : negB f m
  · rw [hb] at hx HR
    have hx : ¬ x < 0 := of_decide_eq_false hx
    have hx : 0 ≤ x := by omega
    clear hb
    cases hb : negB g m
    all_goals
      rw [hb] at HR
      have HB := Lib.hid hb
      clear hb
      go_wp2_with fail
      refine HM2.out.mono ?_
      rintro e w1 ⟨v, rfl, y, rfl, hy, rfl⟩
      rw [HB.out] at hy
      first
        | (have hy : ¬ y < 0 := of_decide_eq_false hy
           have hy : 0 ≤ y := by omega
           go_wp2
           go_ret
           exact ⟨ret_int (HR.out.symm), rfl⟩)
        | (have hy : y < 0 := of_decide_eq_true hy
           go_wp2
           go_ret
           exact ⟨ret_int (HR.out.symm), rfl⟩)
  · rw [hb] at hx HR
    have hx : x < 0 := of_decide_eq_true hx
    clear hb
    go_wp2
    go_ret
    exact ⟨ret_int (HR.out.symm), rfl⟩

set_option maxHeartbeats 400000 in
theorem vclone_any (n cap B : Nat) (A : Option Addr) (f : Nat → Int) (w : World) (hn : 1 ≤ n ∧ n ≤ 6) (hB : B ≤ w.heap.size) (hr : Rd w B A n (numV f)) :
    Calls Try.prog 37 #[.slice A n cap] w (Gives fun v w' => ∃ gx cap', v = .slice (some ⟨gx, 0, none⟩) n cap' ∧ Lay w w' [lst (some ⟨gx, 0, none⟩) 3 n cap' (numV f)]) := by
  obtain ⟨hn1, hn6⟩ := hn
  obtain ⟨ad, rfl, _⟩ := hr (by omega)
  have HR := Lib.hid (hr.more hB); clear hr
  obtain ⟨iI, hiI, hzI0, hzI1, hzI2⟩ := info_parts infoIV
  have hnil : ∀ W, (binOp .eql 34 (.slice (some ad) n cap) (.slice none 0 0)).run Try.prog W = .ok (.bool false) W := fun W => rfl
  go_enter Try.func37, Try.ntmps37
  go_wp2_with (at_builtin; refine wpList_ap1 rfl (.tmp 5) (.tmp 6) _ rfl 3 iI _ 8 Try.underlying34 hiI hzI0 hzI1 hzI2 rfl w.heap.size rfl (Own.empty w _ _ _ (numV f) _ rfl (Nat.le_refl _)) rfl (HR.out.alloc (Nat.le_refl _) _) (fun _ _ => rfl) (numV f) (fun j hj => absurd hj (by omega)) (fun j hj => by rw [Nat.zero_add]) n (by omega) (by unfold maxLen; omega) (by omega) (by simp) ?_
               intro A' cap' w2 ho hg he
               have HO := Lib.hid ho
               have HG := Lib.hid hg
               have HE := Lib.hid he
               clear ho hg he)
  go_ret
  obtain ⟨gx, rfl, _⟩ := HO.out.pos1 (show 0 < n by omega)
  have hL := ((Lay.nil w).new #[] 3 1 0 (numV f) _ rfl rfl (by unfold maxLen; omega) (fun j hj => absurd hj (by omega)))
  exact ⟨_, rfl, gx, cap', rfl, hL.app 0 rfl HO.out HG.out HE.out⟩

set_option maxHeartbeats 800000 in
theorem vjoin_any (n cap B : Nat) (A : Option Addr) (f : Nat → Int) (cap2 B2 : Nat) (A2 : Option Addr) (g : Nat → Int) (w : World) (hn : 1 ≤ n ∧ n ≤ 6) (hB : B ≤ w.heap.size) (hB2 : B2 ≤ w.heap.size) (hr : Rd w B A n (numV f)) (hr2 : Rd w B2 A2 n (numV g)) :
    Calls Try.prog 35 #[.slice A n cap, .slice A2 n cap2] w (Gives fun v w' => ∃ gx cap', v = .slice (some ⟨gx, 0, none⟩) n cap' ∧ Lay w w' [lst (some ⟨gx, 0, none⟩) 3 n cap' (numV fun i => max (f i) (g i))]) := by
  have HC := Lib.hid (vclone_any n cap B A f w hn hB hr)
  obtain ⟨hn1, hn6⟩ := hn
  obtain ⟨ad, rfl, hb, hc⟩ := hr2 (by omega)
  have HG : Hid (∀ W, Below w.heap.size w W → ∀ i, i < n → W.cell? (ad.add i) = some (.int .i64 (g i))) := fun W hbl i hi => (hbl.cell (by rw [addr_block]; omega)).trans (hc i hi)
  clear hr hr2 hB hB2 hb hc
  go_enter Try.func35, Try.ntmps35
  go_wp2_with fail
  refine HC.out.mono ?_
  rintro e w1 ⟨v, rfl, gx, cx, rfl, hl⟩
  have HL : Hid (Lay w w1 [lst (some ⟨gx, 0, none⟩) 3 n cx (numV fun i => if i < 0 then max (f i) (g i) else f i)]) := hl
  clear hl HC
  go_wp2
  go_loopw [12] (fun x wr => ∃ j : Nat, j ≤ n ∧ x = .int .i64 j ∧ Hid (Lay w wr [lst (some ⟨gx, 0, none⟩) 3 n cx (numV fun i => if i < j then max (f i) (g i) else f i)])) (fun x _ => n - (intOf x).toNat)
  case atStart => exact ⟨0, by omega, rfl, HL.out⟩
  case round =>
    clear HL
    obtain ⟨j, hj, rfl, HL⟩ := hrel
    by_cases hlt : j < n
    · have hcx : _ = some (Value.int .i64 (f j)) := (HL.out.cell1 0 rfl hlt).trans (by simp [numV])
      have hfx := HL.out.frz 0 rfl (by omega) j
      have hcg := HG.out wr HL.out.bel j hlt
      go_wp2
      go_roundw
      case rel =>
        refine ⟨j + 1, by omega, by go_num, ?_⟩
        rw [vimax]
        refine (HL.out.upd (mk := fun x : Int => Value.int .i64 x) 0 (max (f j) (g j)) rfl hlt).congr 0 _ rfl (fun i _ => ?_)
        show Value.int .i64 (upd _ j _ i) = Value.int .i64 (if i < j + 1 then max (f i) (g i) else f i)
        rw [upd_apply]
        by_cases e : i = j
        · subst e; simp
        · by_cases e2 : i < j
          · simp [e, e2, Nat.lt_succ_of_lt e2]
          · simp [e, e2, show ¬ i < j + 1 by omega]
      case measure => simp [intOf]; omega
    · obtain rfl : j = n := by omega
      go_wp2
      go_ret
      exact ⟨_, rfl, gx, cx, rfl, HL.out.congr 0 _ rfl (fun i hi => by
        have hi : i < j * 1 := hi
        show Value.int .i64 (if i < j then max (f i) (g i) else f i) = _
        rw [if_pos (by omega)])⟩

def underB (f g : Nat → Int) (n : Nat) : Bool := !anyTo (fun i => decide (g i < f i)) n
set_option maxHeartbeats 400000 in
theorem under_any (n cap B : Nat) (A : Option Addr) (f : Nat → Int) (cap2 B2 : Nat) (A2 : Option Addr) (g : Nat → Int) (w : World) (b : Bool) (hn : 1 ≤ n ∧ n ≤ 6) (hr : Rd w B A n (numV f)) (hr2 : Rd w B2 A2 n (numV g)) (hb : underB f g n = b) :
    Calls Try.prog 36 #[.slice A n cap, .slice A2 n cap2] w fun e w' => e = .returned (.bool b) ∧ w = w' := by
  obtain ⟨hn1, hn6⟩ := hn
  obtain ⟨ad, rfl, _, hc⟩ := hr (by omega)
  obtain ⟨ad2, rfl, _, hc2⟩ := hr2 (by omega)
  have HC := Lib.hid hc
  have HC2 := Lib.hid hc2
  have HB := Lib.hid hb
  clear hr hr2 hc hc2 hb
  go_enter Try.func36, Try.ntmps36
  go_wp2
  go_loop [9] (fun x => ∃ j : Nat, j ≤ n ∧ x = .int .i64 j ∧ Hid (∀ i, i < j → (fun i => decide (g i < f i)) i = false)) (fun x => n - (intOf x).toNat)
  case atStart => exact ⟨0, by omega, rfl, fun i hi => absurd hi (by omega)⟩
  case round =>
    obtain ⟨j, hj, rfl, HA⟩ := hrel
    by_cases hlt : j < n
    · have h1 := HC.out j hlt
      have h2 := HC2.out j hlt
      by_cases hq : g j < f j
      · have HN : Hid (b = false) := by show b = false; rw [← HB.out, underB, anyTo_iff.2 ⟨j, hlt, decide_eq_true hq⟩]; rfl
        go_wp2
        go_ret
        exact ⟨ret_bool HN.out.symm, rfl⟩
      · have HQ : Hid ((fun i => decide (g i < f i)) j = false) := decide_eq_false hq
        have hq : f j ≤ g j := by omega
        go_wp2
        go_round
        case rel => exact ⟨j + 1, by omega, by go_num, fun i hi => (Nat.lt_succ_iff_lt_or_eq.1 hi).elim (HA.out i) (fun e => by subst e; exact HQ.out)⟩
        case measure => simp [intOf]; omega
    · obtain rfl : j = n := by omega
      have HN : Hid (b = true) := by show b = true; rw [← HB.out, underB, anyTo_no.2 HA.out]; rfl
      go_wp2
      go_ret
      exact ⟨ret_bool HN.out.symm, rfl⟩
theorem less_no (n cap B : Nat) (A : Option Addr) (f : Nat → Int) (cap2 B2 : Nat) (A2 : Option Addr) (g : Nat → Int) (w : World) (hn : 1 ≤ n ∧ n ≤ 6) (hr : Rd w B A n (numV f)) (hr2 : Rd w B2 A2 n (numV g)) (hc : vecCode f n g n = 0) (hu : underB g f n = true) :
    Calls Try.prog 24 #[.slice A n cap, .slice A2 n cap2] w fun e w' => e = .returned (.tuple #[.bool false, .int .i64 0]) ∧ w = w' := by
  have HC := Lib.hid (int_is (vcheck_any f n cap B A g n cap2 B2 A2 w (by unfold maxLen; omega) (by unfold maxLen; omega) hr hr2) hc)
  have HU := Lib.hid (under_any n cap2 B2 A2 g cap B A f w true hn hr2 hr hu)
  obtain ⟨b, hb⟩ : ∃ b, underB f g n = b := ⟨_, rfl⟩
  have HU2 := Lib.hid (under_any n cap B A f cap2 B2 A2 g w b hn hr hr2 hb)
  clear hr hr2 hc hu hb
  go_enter Try.func24, Try.ntmps24
  go_wp2_with fail
  refine HC.out.mono ?_
  rintro e w1 ⟨rfl, rfl⟩
  go_wp2_with fail
  refine HU2.out.mono ?_
  rintro e w1 ⟨rfl, rfl⟩
  cases b
  · go_wp2
    go_ret2
    exact ⟨rfl, rfl⟩
  · go_wp2_with fail
    refine HU.out.mono ?_
    rintro e w1 ⟨rfl, rfl⟩
    go_wp2
    go_ret2
    exact ⟨rfl, rfl⟩
theorem Join_good (n cap B : Nat) (A : Option Addr) (f : Nat → Int) (cap2 B2 : Nat) (A2 : Option Addr) (g : Nat → Int) (w : World) (hn : 1 ≤ n ∧ n ≤ 6) (hB : B ≤ w.heap.size) (hB2 : B2 ≤ w.heap.size) (hr : Rd w B A n (numV f)) (hr2 : Rd w B2 A2 n (numV g)) (hc : vecCode f n g n = 0) :
    Calls Try.prog 22 #[.slice A n cap, .slice A2 n cap2] w (Gives fun v w' => ∃ gx cap', v = .tuple #[.slice (some ⟨gx, 0, none⟩) n cap', .int .i64 0] ∧ Lay w w' [lst (some ⟨gx, 0, none⟩) 3 n cap' (numV fun i => max (f i) (g i))]) := by
  have HC := Lib.hid (int_is (vcheck_any f n cap B A g n cap2 B2 A2 w (by unfold maxLen; omega) (by unfold maxLen; omega) hr hr2) hc)
  have HJ := Lib.hid (vjoin_any n cap B A f cap2 B2 A2 g w hn hB hB2 hr hr2)
  clear hr hr2 hc
  go_enter Try.func22, Try.ntmps22
  go_wp2_with fail
  refine HC.out.mono ?_
  rintro e w1 ⟨rfl, rfl⟩
  go_wp2_with fail
  refine HJ.out.mono ?_
  rintro e w1 ⟨v, rfl, gx, cx, rfl, hl⟩
  have HL := Lib.hid hl; clear hl
  go_wp2
  go_ret2
  exact ⟨_, rfl, gx, cx, rfl, HL.out⟩
theorem Join_bad (n m cap B : Nat) (A : Option Addr) (f : Nat → Int) (cap2 B2 : Nat) (A2 : Option Addr) (g : Nat → Int) (w : World) (hn : n ≤ maxLen) (hm : m ≤ maxLen) (hr : Rd w B A n (numV f)) (hr2 : Rd w B2 A2 m (numV g)) (hc : vecCode f n g m ≠ 0) :
    Calls Try.prog 22 #[.slice A n cap, .slice A2 m cap2] w fun e w' => e = .returned (.tuple #[.slice none 0 0, .int .i64 (vecCode f n g m)]) ∧ w = w' := by
  have HC := Lib.hid (vcheck_any f n cap B A g m cap2 B2 A2 w hn hm hr hr2)
  generalize vecCode f n g m = c at HC hc ⊢
  have he : (c != 0) = true := by simpa using hc
  clear hr hr2 hc hn hm
  go_enter Try.func22, Try.ntmps22
  go_wp2_with fail
  refine HC.out.mono ?_
  rintro e w1 ⟨rfl, rfl⟩
  go_wp2
  go_ret2
  exact ⟨rfl, rfl⟩
end Go.Proofs.Ytkdookhblbjddaa
