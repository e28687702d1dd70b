/- The walk of cut.Way. -/
import Derived.Test.YthonnpimfidkdaaCut1
import Derived.Test.YthonnpimfidkdaaWd1
import Derived.Test.YthonnpimfidkdaaWayMath
import Derived.Test.YthonnpimfidkdaaSortL
import Derived.Test.YthonnpimfidkdaaShr
set_option linter.unusedVariables false
set_option linter.unusedSimpArgs false
namespace Go.Proofs.Ythonnpimfidkdaa
open Go.RowKit

theorem row_cast (A : Option Addr) (l : List Nat) (cap : Nat) : (⟨A, 3, 1, l.length, cap, fun j => .int .i64 (lf l j : Nat)⟩ : LRow) = ⟨A, 3, 1, (l.map fun x : Nat => (x : Int)).length, cap, fun j => .int .i64 ((l.map fun x : Nat => (x : Int)).getD j 0)⟩ := by
  congr 1
  · rw [List.length_map]
  · funext j
    congr 1
    unfold lf
    simp only [List.getD_eq_getElem?_getD, List.getElem?_map]
    cases l[j]? <;> rfl
theorem sort_cast (l : List Nat) : sortI (l.map fun x : Nat => (x : Int)) = (srtN l).map fun x : Nat => (x : Int) := by
  unfold sortI srtN
  symm
  refine List.map_mergeSort fun a _ b _ => ?_
  simp
def WayOut (n : Int) (E : Ev) (len : Nat) (c : Nat → Int) (m : Nat) (l : List Nat) (x : Int) : Prop :=
  (x ≠ 0 → l = []) ∧ (x = 0 ↔ ∃ n' : Nat, n = n' ∧ runCode n E len = 0 ∧ CutOk n' E len c m ∧ WholeC E c len) ∧ (x = 0 → l = srtN (wayL E c len))
theorem wayL_next (E : Ev) (c : Nat → Int) (j : Nat) : wayL E c (j + 1) = if inC E c j then (if E.k j = 2 then wayL E c j ++ [mN E j] else if E.k j = 3 then (wayL E c j).filter (fun x => !(x == mN E j)) else wayL E c j) else wayL E c j := rfl
set_option maxRecDepth 100000 in
set_option maxHeartbeats 3200000 in
theorem way_any (n : Int) (A : Option Addr) (len cap B : Nat) (E : Ev) (A2 : Option Addr) (m cap2 : Nat) (c : Nat → Int) (w : World) (hlen : len ≤ maxLen) (hm : m ≤ maxLen) (hB : B ≤ w.heap.size) (hr : Rd w B A (len * 3) (evF E)) (hr2 : Rd w B A2 m (numV c)) :
    Calls Try.prog 8 #[.int .i64 n, .slice A len cap, .slice A2 m cap2] w
      (Gives fun v w' => ∃ (A' : Option Addr) (cp : Nat) (l : List Nat) (x : Int), v = .tuple #[.slice A' l.length cp, .int .i64 x] ∧ WayOut n E len c m l x ∧ Lay w w' [uRow A' l.length cp (lf l)]) := by
  have HR := Lib.hid (hr.more hB); clear hr
  have HR2 := Lib.hid (hr2.more hB); clear hr2
  have HLEN := Lib.hid hlen; clear hlen
  have HMM := Lib.hid hm; clear hm
  go_enter Try.func8, Try.ntmps8
  go_wp2_with fail
  refine (is_any n A len cap w.heap.size E A2 m cap2 c w HLEN.out HMM.out (Nat.le_refl _) HR.out HR2.out).mono ?_
  rintro e w1 ⟨v, rfl, b, x, rfl, ⟨hx1, hx2, hx3⟩, hb⟩
  have HB := Lib.hid hb; clear hb
  by_cases h0 : x = 0
  rotate_left
  · have hxb : (x != 0) = true := by simpa using h0
    have HO : Hid (WayOut n E len c m [] x) := Lib.hid ⟨fun _ => rfl, ⟨fun h => absurd h h0, fun ⟨n', e, h1, h2, _⟩ => hx2.2 ⟨n', e, h1, h2⟩⟩, fun h => absurd h h0⟩
    clear hx1 hx2 hx3 h0
    go_wp2
    go_ret2
    exact ⟨_, rfl, none, 0, [], x, rfl, HO.out, (Lay.nil w).keep HB.out |>.lnil _ _ _⟩
  subst h0
  obtain ⟨k, rfl, hg, hok⟩ := hx2.1 rfl
  cases b
  · have HO : Hid (WayOut k E len c m [] 5) := Lib.hid ⟨fun _ => rfl, ⟨fun h => absurd h (by decide), fun ⟨n', e, h1, h2, h3⟩ => by have := (hx3 rfl).2 h3; cases this⟩, fun h => absurd h (by decide)⟩
    clear hx1 hx2 hx3 hg hok
    go_wp2
    go_ret2
    exact ⟨_, rfl, none, 0, [], 5, rfl, HO.out, (Lay.nil w).keep HB.out |>.lnil _ _ _⟩
  have hwh := (hx3 rfl).1 rfl
  have HO : Hid (∀ l, l = srtN (wayL E c len) → WayOut k E len c m l 0) := Lib.hid fun l hl => ⟨fun h => absurd rfl h, ⟨fun _ => ⟨k, rfl, hg, hok, hwh⟩, fun _ => rfl⟩, fun _ => hl⟩
  have HG := Lib.hid hg
  have HOK := Lib.hid hok
  have h30 := (runCode_ok hg).1.2.2
  clear hx1 hx2 hx3 hg hok hwh
  go_wp2_with fail
  refine (in_any k A len cap w.heap.size E A2 m cap2 c w1 HG.out HMM.out HB.out.size (HR.out.below HB.out) (HR2.out.below HB.out)).mono ?_
  rintro e w2 ⟨v, rfl, S, x, rfl, hx, hS, hb⟩
  obtain rfl : x = 0 := hx.2 HOK.out
  obtain rfl := hS rfl
  have HL0 := Lib.hid (((Lay.nil w).keep (HB.out.trans (hb.mono HB.out.size))).lnil 3 1 (fun j => .int .i64 (lf (wayL E c 0) j : Nat)))
  clear hx hS hb HB HOK
  have hSl : cutS E c len < 4294967296 := by
    have h1 := cutS_lt E c len
    have h2 : 2 ^ len ≤ 2 ^ 30 := Nat.pow_le_pow_right (by omega) h30
    have h3 : (2 : Nat) ^ 30 < 4294967296 := by decide
    omega
  have HBIT : Hid (∀ j, j < len → (cutS E c len).testBit j = inC E c j) := Lib.hid fun j hj => by
    rw [Bool.eq_iff_iff, cutS_bit]
    exact ⟨fun h => h.2, fun h => ⟨hj, h⟩⟩
  generalize cutS E c len = T at hSl HBIT ⊢
  have HT := Lib.hid hSl
  clear hSl
  obtain ⟨iI, hiI, hzI0, hzI1, hzI2⟩ := info_parts infoIV
  go_wp2
  go_loopw [12, 36] (fun o i wr => ∃ (j : Nat) (A1 : Option Addr) (cp1 : Nat), j ≤ len ∧ i = .int .i64 (j : Nat) ∧ o = .slice A1 (wayL E c j).length cp1 ∧ Hid (Lay w wr [uRow A1 (wayL E c j).length cp1 (lf (wayL E c j))])) (fun _ i _ => len - (intOf i).toNat)
  case atStart => exact ⟨0, none, 0, by omega, rfl, rfl, HL0⟩
  case round =>
    clear HL0
    obtain ⟨j, A1, cp1, hj, rfl, rfl, HL⟩ := hrel
    by_cases hlt : j < len
    · obtain ⟨ad, rfl, hbl, m0, m1, m2⟩ := (HR.out.below HL.out.bel).rec3 hlt
      have hsz := HL.out.size
      have hbl2 : (ad.add (j * 3)).block < wr.heap.size := by rw [addr_block]; omega
      have hbit := HBIT.out j hlt
      have hnum := bit_num (i := j) HT.out
      rw [hbit] at hnum
      have hnx := wayL_next E c j
      have hlw := wayL_len E c j
      have HEV : Hid (E.k j ≠ 1 → E.m j = (mN E j : Nat)) := Lib.hid fun h => (ev_msg HG.out hlt h).1
      have hkind := ev_kind HG.out hlt
      clear hbit
      obtain ⟨L, hL⟩ : ∃ L, L = wayL E c j := ⟨_, rfl⟩
      rw [← hL] at hnx hlw HL ⊢
      clear hL
      cases hin : inC E c j
      · rw [hin] at hnx hnum
        have hnx : wayL E c (j + 1) = L := hnx
        have HNX := Lib.hid hnx
        simp only [Bool.false_eq_true, if_false] at hnum
        clear hnx hin hkind
        have HQ := Lib.hid ((HL.out.newB [.int .i64 (E.p j), .int .i64 (E.k j), .int .i64 (E.m j)] 32 3 rfl _ rfl).perm (L' := [uRow A1 L.length cp1 (lf L), blk wr.heap.size 32 3 (ofL [.int .i64 (E.p j), .int .i64 (E.k j), .int .i64 (E.m j)])]) [1, 0] (by decide) rfl)
        clear HL
        go_wp2
        go_roundw
        case rel => exact ⟨j + 1, A1, cp1, by omega, by go_num, by rw [HNX.out], Lib.hid (by rw [HNX.out]; exact HQ.out.perm [0] (by decide) rfl)⟩
        case measure => simp [intOf]; omega
      · rw [hin] at hnx hnum
        simp only [if_true] at hnx hnum
        rcases hkind with hk | hk | hk
        · rw [if_neg (by omega), if_neg (by omega)] at hnx
          have HNX := Lib.hid hnx
          rw [hk] at m1
          clear hnx hin hk
          have HQ := Lib.hid ((HL.out.newB [.int .i64 (E.p j), .int .i64 1, .int .i64 (E.m j)] 32 3 rfl _ rfl).perm (L' := [uRow A1 L.length cp1 (lf L), blk wr.heap.size 32 3 (ofL [.int .i64 (E.p j), .int .i64 1, .int .i64 (E.m j)])]) [1, 0] (by decide) rfl)
          clear HL
          go_wp2
          go_roundw
          case rel => exact ⟨j + 1, A1, cp1, by omega, by go_num, by rw [HNX.out], Lib.hid (by rw [HNX.out]; exact HQ.out.perm [0] (by decide) rfl)⟩
          case measure => simp [intOf]; omega
        · rw [if_pos hk] at hnx
          have HNX := Lib.hid hnx
          rw [HEV.out (by omega)] at m2
          rw [hk] at m1
          clear hnx hin hk HEV
          generalize mN E j = x at *
          have hl1 : (L ++ [x]).length = L.length + 1 := by simp
          have HNW : Hid (∀ t, t < 1 → (#[Value.int .i64 (x : Nat)])[t]? = some (Value.int .i64 (lf (L ++ [x]) (L.length + t) : Nat))) := Lib.hid fun t ht => by
            obtain rfl : t = 0 := by omega
            rw [lf_app, if_neg (by omega), if_pos (by omega)]; rfl
          have HOL : Hid (∀ t, t < L.length → (Value.int .i64 (lf (L ++ [x]) t : Nat)) = .int .i64 (lf L t : Nat)) := Lib.hid fun t ht => by rw [lf_app, if_pos ht]
          have HQ := Lib.hid ((HL.out.newB [.int .i64 (E.p j), .int .i64 2, .int .i64 (x : Nat)] 32 3 rfl _ rfl).perm (L' := [uRow A1 L.length cp1 (lf L), blk wr.heap.size 32 3 (ofL [.int .i64 (E.p j), .int .i64 2, .int .i64 (x : Nat)])]) [1, 0] (by decide) rfl)
          clear HL
          go_wp2_with (first
            | (at_builtin; refine wpList_ap1 rfl (.tmp 49) (.tmp 52) _ rfl 3 iI _ 8 Try.underlying23 hiI hzI0 hzI1 hzI2 rfl w.heap.size (n := L.length) rfl ((HQ.out.alloc _).own 0 _ rfl) (B := wr.heap.size + 1 + 1) (m := 1) (g := fun t => .int .i64 (lf (L ++ [x]) (L.length + t) : Nat)) rfl (cell_new (wr.alloc (.cells #[.int .i64 (E.p j), .int .i64 2, .int .i64 (x : Nat)] 32)) _ _ _ (wr.heap.size + 1) (by simp) HNW.out) (fun _ _ => rfl) (fun t => .int .i64 (lf (L ++ [x]) t : Nat)) HOL.out (fun _ _ => rfl) (L.length + 1) rfl (by unfold maxLen; omega) (by omega) (by have := HQ.out.size; simp at this ⊢; omega) ?_
               intro A4 c4 w4 ho4 hg4 ha4
               have HL9 := Lib.hid ((HQ.out.alloc (.cells #[.int .i64 (x : Nat)] 3)).app 0 rfl ho4 hg4 ha4)
               have d1 := HL9.out.cellB 1 rfl 1 (by omega)
               have hb1 := (HL9.out.at_ 1 rfl).2
               simp only [ofL_1] at d1
               clear ho4 hg4 ha4)
            | fail)
          go_roundw
          case rel => exact ⟨j + 1, A4, c4, by omega, by go_num, by rw [HNX.out, hl1], Lib.hid (by rw [HNX.out, hl1]; exact HL9.out.perm [0] (by decide) rfl)⟩
          case measure => simp [intOf]; omega
        · rw [if_neg (by omega), if_pos hk] at hnx
          have HNX := Lib.hid hnx
          rw [HEV.out (by omega)] at m2
          rw [hk] at m1
          clear hnx hin hk HEV
          generalize mN E j = x at *
          have HQ := Lib.hid ((HL.out.newB [.int .i64 (E.p j), .int .i64 3, .int .i64 (x : Nat)] 32 3 rfl _ rfl).perm (L' := [uRow A1 L.length cp1 (lf L), blk wr.heap.size 32 3 (ofL [.int .i64 (E.p j), .int .i64 3, .int .i64 (x : Nat)])]) [1, 0] (by decide) rfl)
          clear HL
          go_wp2_with fail
          refine (delB_lay (E.p j) 3 L A1 cp1 wr.heap.size x w _ (by omega) HQ.out).mono ?_
          rintro e w5 ⟨v, rfl, rfl, h5⟩
          have H5 := Lib.hid h5
          clear h5 HQ
          go_wp2
          go_roundw
          case rel => exact ⟨j + 1, A1, cp1, by omega, by go_num, by rw [HNX.out]; rfl, Lib.hid (by rw [HNX.out]; exact H5.out.perm [0] (by decide) rfl)⟩
          case measure => simp [intOf]; omega
    · obtain rfl : len = j := by omega
      have hrow : Lay w wr [(⟨A1, 3, 1, ((wayL E c len).map fun x : Nat => (x : Int)).length, cp1, fun j => .int .i64 (((wayL E c len).map fun x : Nat => (x : Int)).getD j 0)⟩ : LRow)] := by rw [← row_cast]; exact HL.out
      have hS := sort_lay hrow 0 ((wayL E c len).map fun x : Nat => (x : Int)) rfl (by rw [List.length_map]; have := wayL_len E c len; omega)
      rw [sort_cast] at hS
      have hln : (srtN (wayL E c len)).length = (wayL E c len).length := srtN_len _
      rw [List.length_map] at hS
      have HS := Lib.hid hS
      have HLN := Lib.hid hln
      clear hS hrow HL hln
      have HO1 := Lib.hid (HO.out _ rfl)
      go_wp2_with (first | (go_at_call 21; refine HS.out.mono ?_; rintro e w6 ⟨rfl, h6⟩; have H6 := Lib.hid h6; clear h6) | fail)
      go_ret2
      refine ⟨_, rfl, A1, cp1, srtN (wayL E c len), 0, by rw [HLN.out]; rfl, HO1.out, ?_⟩
      have e : uRow A1 (srtN (wayL E c len)).length cp1 (lf (srtN (wayL E c len))) = _ := row_cast A1 (srtN (wayL E c len)) cp1
      rw [e, List.length_map, HLN.out]
      exact H6.out
end Go.Proofs.Ythonnpimfidkdaa
