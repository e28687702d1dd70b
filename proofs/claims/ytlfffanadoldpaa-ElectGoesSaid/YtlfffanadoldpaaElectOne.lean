/- The law ElectOne, walked. -/
import Derived.Test.YtlfffanadoldpaaEl4
import Derived.Test.YtlfffanadoldpaaElLaw
import Derived.Test.YtlfffanadoldpaaPlayed
set_option linter.unusedVariables false
set_option linter.unusedSimpArgs false
namespace Go.Proofs.Ytlfffanadoldpaa
open Go.RowKit

theorem el_bad' (n : Int) (m cap : Nat) (A : Option Addr) (w : World) (hm : m ≤ maxLen) (hb : playedB n m = false) :
    Calls Try.prog 6 #[.int .i64 n, .slice A m cap] w fun e w' => e = .returned (.tuple #[.agg #[.slice none 0 0, .slice none 0 0, .slice none 0 0, .slice none 0 0, .slice none 0 0], .int .i64 1]) ∧ Below w.heap.size w w' :=
  el_bad n m cap A w hm fun h => by rw [playedB_iff.2 h] at hb; cases hb
def lfst (l : List (Nat × Nat)) (i : Nat) : Nat := (l[i]?.getD (0, 0)).1
def lsnd (l : List (Nat × Nat)) (i : Nat) : Nat := (l[i]?.getD (0, 0)).2
theorem ledF_0 (l : List (Nat × Nat)) (i : Nat) : ledF l (i * 2) = .int .i64 (lfst l i : Nat) := by
  have h1 : i * 2 % 2 = 0 := by omega
  have h2 : i * 2 / 2 = i := by omega
  simp [ledF, h1, h2, lfst]
theorem ledF_1 (l : List (Nat × Nat)) (i : Nat) : ledF l (i * 2 + 1) = .int .i64 (lsnd l i : Nat) := by
  have h1 : (i * 2 + 1) % 2 = 1 := by omega
  have h2 : (i * 2 + 1) / 2 = i := by omega
  simp [ledF, h1, h2, lsnd]
theorem led_cells {w0 w : World} {L : List LRow} (h : Lay w0 w L) (k : Nat) {gL cap : Nat} {l : List (Nat × Nat)} (hk : L[k]? = some (ledR (some ⟨gL, 0, none⟩) cap l)) {i : Nat} (hi : i < l.length) :
    w.cell? ⟨gL, i * 2, none⟩ = some (.int .i64 (lfst l i : Nat)) ∧ w.cell? ⟨gL, i * 2 + 1, none⟩ = some (.int .i64 (lsnd l i : Nat)) :=
  ⟨(h.cell k hk (j := i * 2) (by omega)).trans (by rw [ledF_0]), (h.cell k hk (j := i * 2 + 1) (by omega)).trans (by rw [ledF_1])⟩
theorem led_apart {l : List (Nat × Nat)} (h : l.Pairwise fun x y => x.1 ≠ y.1) {i j : Nat} (hij : i < j) (hj : j < l.length) : lfst l j ≠ lfst l i := by
  have := List.pairwise_iff_getElem.1 h i j (by omega) hj hij
  unfold lfst
  rw [List.getElem?_eq_getElem hj, List.getElem?_eq_getElem (by omega : i < l.length)]
  exact Ne.symm this
/-- Is the pair among the first q? -/
def isLed (l : List (Nat × Nat)) (t i q : Nat) : Bool := anyTo (fun j => lfst l j == t && lsnd l j == i) q
theorem isLed_mem {l : List (Nat × Nat)} {t i : Nat} (h : (t, i) ∈ l) : isLed l t i l.length = true := by
  obtain ⟨j, hj⟩ := List.getElem?_of_mem h
  have hlt : j < l.length := (List.getElem?_eq_some_iff.1 hj).1
  exact anyTo_iff.2 ⟨j, hlt, by simp [lfst, lsnd, hj]⟩

abbrev rowsG (bb g gl n : Nat) (s : ES) (M : Mv) (m : Nat) (AL : Option Addr) (cL : Nat) (AC : Option Addr) (cC : Nat) (AT : Option Addr) (cT : Nat) (AR : Option Addr) (cR : Nat) (AV : Option Addr) (cV : Nat) (R : List LRow) : List LRow :=
  blkE bb [.slice AC m cC, .slice AT n cT, .slice AR n cR, .slice AV n cV, .slice AL s.led.length cL] ::
  rowsE g gl n s AL cL (lstC AC m cC (elC n M) :: lstI AT n cT (fun i => .int .i64 (s.T i : Nat)) :: lstI AR n cR (fun i => .int .i64 (s.R i)) :: lstI AV n cV (fun i => .int .i64 (s.V i)) :: R)

set_option maxRecDepth 100000 in
set_option maxHeartbeats 3200000 in
theorem electOne_good (n m cap : Nat) (A : Option Addr) (M : Mv) (w : World) (hr : Rd w w.heap.size A (m * 4) (mvF M)) (h1 : 1 ≤ n) (h6 : n ≤ 6) (hm6 : m ≤ 60) :
    Calls Try.prog 3 #[.int .i64 n, .slice A m cap] w fun e w' => e = .returned (.bool true) ∧ Below w.heap.size w w' := by
  have HR := Lib.hid hr; clear hr
  have HB : Hid (playedB n m = true) := playedB_iff.2 ⟨by omega, by omega, by omega⟩
  have HLAW := Lib.hid (el_one_ (n := n) (by omega) M m)
  have HEI := Lib.hid (EI.all n M m)
  go_enter Try.func3, Try.ntmps3
  go_wp2_with fail
  refine (el_good n m cap _ A M w h1 h6 hm6 (Nat.le_refl _) HR.out).mono ?_
  rintro e w1 ⟨v, rfl, g, gl, b, AL, cL, AC, cC, AT, cT, AR, cR, AV, cV, rfl, hL⟩
  have HL := Lib.hid hL; clear hL
  go_upto_region 6 with (go_at_call 7; refine (bool_is (played_any n m _) HB.out).mono ?_; rintro e w3 ⟨rfl, rfl⟩)
  have HL1 := Lib.hid (HL.out.newB [.slice AC m cC, .slice AT n cT, .slice AR n cR, .slice AV n cV, .slice AL (elE n M m).led.length cL] 27 5 rfl _ rfl)
  clear HL
  refine at_lay (F := fun W' => Code.wp _ _ _ _ W') HL1.out ?_
  intro W hW
  have HW : Hid (Lay w W (rowsG w1.heap.size g gl n (elE n M m) M m AL cL AC cC AT cT AR cR AV cV [blkE b [.slice AC m cC, .slice AT n cT, .slice AR n cR, .slice AV n cV, .slice AL (elE n M m).led.length cL]])) := hW
  clear hW HL1
  generalize w1.heap.size = bb at HW ⊢
  generalize [blkE b [.slice AC m cC, .slice AT n cT, .slice AR n cR, .slice AV n cV, .slice AL (elE n M m).led.length cL]] = RR at HW
  obtain ⟨s, hs⟩ : ∃ s, elE n M m = s := ⟨_, rfl⟩
  rw [hs] at HW HLAW HEI ⊢
  have hll : s.led.length ≤ 120 := by have := HEI.out.led; omega
  obtain ⟨ll, hlle⟩ : ∃ ll, s.led.length = ll := ⟨_, rfl⟩
  have HLL := Lib.hid hlle
  have hcl : ll ≤ cL := by have := (HW.out.own 3 _ rfl).le.1; rw [← hlle]; exact this
  have hcl2 : cL ≤ 9223372036854775807 := by have := (HW.out.own 3 _ rfl).le.2; unfold maxLen at this; exact this
  have c4 := HW.out.cellB 0 rfl 4 (by omega)
  simp only [ofL_4] at c4
  rw [hlle] at hll c4 ⊢
  have hbb := (HW.out.at_ 0 rfl).2
  clear hs hlle
  go_wp2
  clear c4 hbb
  go_loopw [54] (fun i wr => ∃ q : Nat, q ≤ ll ∧ i = .int .i64 q ∧ Hid (Lay w wr (rowsG bb g gl n s M m AL cL AC cC AT cT AR cR AV cV RR))) (fun i _ => ll - (intOf i).toNat)
  case atStart => exact ⟨0, by omega, rfl, HW⟩
  case round =>
    clear HW
    obtain ⟨q, hq, rfl, HQ⟩ := hrel
    by_cases hlt : q < ll
    · obtain ⟨gL, rfl, -⟩ := (HQ.out.own 3 _ rfl).pos (by show 0 < s.led.length; rw [HLL.out]; omega)
      obtain ⟨x0, x1⟩ := led_cells HQ.out 3 rfl (i := q) (by rw [HLL.out]; exact hlt)
      have c4 := HQ.out.cellB 0 rfl 4 (by omega)
      simp only [ofL_4] at c4
      rw [HLL.out] at c4
      have hbb := (HQ.out.at_ 0 rfl).2
      have hql : (q : Int) ≤ (cL : Int) := by omega
      go_wp2
      clear x0 x1 c4 hbb hql
      have HQ1 : Hid (Lay w (wr.alloc (.cells #[.int .i64 (lfst s.led q : Nat), .int .i64 (lsnd s.led q : Nat)] 32)) (blk wr.heap.size 32 2 (ofL [.int .i64 (lfst s.led q : Nat), .int .i64 (lsnd s.led q : Nat)]) :: rowsG bb g gl n s M m (some ⟨gL, 0, none⟩) cL AC cC AT cT AR cR AV cV RR)) := HQ.out.newB [.int .i64 (lfst s.led q : Nat), .int .i64 (lsnd s.led q : Nat)] _ 2 rfl _ rfl
      generalize wr.heap.size = bx at HQ1 ⊢
      go_loopw [64] (fun i wr2 => ∃ j : Nat, j ≤ q ∧ i = .int .i64 j ∧ Hid (Lay w wr2 (blk bx 32 2 (ofL [.int .i64 (lfst s.led q : Nat), .int .i64 (lsnd s.led q : Nat)]) :: rowsG bb g gl n s M m (some ⟨gL, 0, none⟩) cL AC cC AT cT AR cR AV cV RR))) (fun i _ => q - (intOf i).toNat)
      case atStart => exact ⟨0, by omega, rfl, HQ1⟩
      case round =>
        clear HQ1 HQ
        obtain ⟨j, hj, rfl, HJ⟩ := hrel
        by_cases hjq : j < q
        · obtain ⟨y0, y1⟩ := led_cells HJ.out 4 rfl (i := j) (by rw [HLL.out]; omega)
          have b0 := HJ.out.cellB 0 rfl 0 (by omega)
          have hbx := (HJ.out.at_ 0 rfl).2
          simp only [ofL_0] at b0
          have hne := led_apart HLAW.out.1 hjq (by rw [HLL.out]; exact hlt)
          obtain ⟨a, ha⟩ : ∃ a, lfst s.led q = a := ⟨_, rfl⟩
          obtain ⟨c, hc⟩ : ∃ c, lfst s.led j = c := ⟨_, rfl⟩
          rw [ha] at b0 hne
          rw [hc] at y0 hne
          have e1 : ((a : Int) == (c : Int)) = false := by rw [beq_eq_false_iff_ne]; omega
          have e2 : (a == c) = false := by simpa using hne
          clear ha hc hne
          go_wp2
          go_roundw
          case rel => exact ⟨j + 1, by omega, by go_num, HJ.out.alloc _⟩
          case measure => simp [intOf]; omega
        · obtain rfl : j = q := by omega
          go_wp2
          go_roundw
          case rel => exact ⟨j + 1, by omega, by go_num, HJ.out.tail⟩
          case measure => simp [intOf]; omega
    · obtain rfl : q = ll := by omega
      go_wp2
      go_loopw [11] (fun i wr => ∃ a : Nat, a ≤ n ∧ i = .int .i64 a ∧ Hid (Lay w wr (rowsG bb g gl n s M m AL cL AC cC AT cT AR cR AV cV RR))) (fun i _ => n - (intOf i).toNat)
      case atStart => exact ⟨0, by omega, rfl, HQ⟩
      case round =>
        clear HQ
        obtain ⟨a, ha, rfl, HQ⟩ := hrel
        by_cases han : a < n
        · have c4 := HQ.out.cellB 0 rfl 4 (by omega)
          simp only [ofL_4] at c4
          rw [HLL.out] at c4
          have hbb := (HQ.out.at_ 0 rfl).2
          obtain ⟨gT, rfl, -⟩ := (HQ.out.own 5 _ rfl).pos1 (by show 0 < n; omega)
          obtain ⟨gR, rfl, -⟩ := (HQ.out.own 6 _ rfl).pos1 (by show 0 < n; omega)
          go_wp2
          clear c4 hbb
          go_loopw [12, 83] (fun z i wr => ∃ j : Nat, j ≤ q ∧ i = .int .i64 j ∧ z = .bool (isLed s.led (s.T a) a j) ∧ Hid (Lay w wr (rowsG bb g gl n s M m AL cL AC cC (some ⟨gT, 0, none⟩) cT (some ⟨gR, 0, none⟩) cR AV cV RR))) (fun _ i _ => q - (intOf i).toNat)
          case atStart => exact ⟨0, by omega, rfl, rfl, HQ⟩
          case round =>
            clear HQ
            obtain ⟨j, hj, rfl, rfl, HJ⟩ := hrel
            have hbb := (HJ.out.at_ 0 rfl).2
            by_cases hjq : j < q
            · obtain ⟨gL, rfl, -⟩ := (HJ.out.own 3 _ rfl).pos (by show 0 < s.led.length; rw [HLL.out]; omega)
              obtain ⟨y0, y1⟩ := led_cells HJ.out 3 rfl (i := j) (by rw [HLL.out]; omega)
              have c1 := HJ.out.cellB 0 rfl 1 (by omega)
              simp only [ofL_1] at c1
              have r1 := HJ.out.cell1 5 rfl (j := a) han
              have hgT := (HJ.out.at_ 5 rfl).2
              have HST := Lib.hid (show isLed s.led (s.T a) a (j + 1) = (isLed s.led (s.T a) a j || (lfst s.led j == s.T a && lsnd s.led j == a)) from rfl)
              obtain ⟨x, hx⟩ : ∃ x, lfst s.led j = x := ⟨_, rfl⟩
              obtain ⟨y, hy⟩ : ∃ y, lsnd s.led j = y := ⟨_, rfl⟩
              obtain ⟨t, ht⟩ : ∃ t, s.T a = t := ⟨_, rfl⟩
              rw [hx] at y0 HST
              rw [hy] at y1 HST
              rw [ht] at r1 HST ⊢
              obtain ⟨z, hz⟩ : ∃ z, isLed s.led t a j = z := ⟨_, rfl⟩
              rw [hz] at HST ⊢
              clear hx hy hz
              have HT := Lib.hid ht
              clear ht
              cases z
              · by_cases hxt : x = t
                · subst hxt
                  by_cases hya : y = a
                  · subst hya
                    go_wp2
                    refine wp_text_all (by kernel_rfl) (by kernel_rfl) (by kernel_rfl) (by repeat' (first | (with_reducible apply tame_then) | (with_reducible apply tame_block) | (with_reducible apply tame_scope) | exact tame_gives | exact tame_body (fun _ _ h => ⟨_, h.1⟩))) ?_
                    go_wp2
                    refine headed ?_
                    go_wp2
                    go_roundw
                    case rel => exact ⟨j + 1, by omega, by go_num, by rw [HST.out]; simp, (HJ.out.alloc _).sim ⟨rfl, rfl, rfl, rfl⟩⟩
                    case measure => simp [intOf]; omega
                  · have e1 : ((y : Int) == (a : Int)) = false := by rw [beq_eq_false_iff_ne]; omega
                    have e2 : (y == a) = false := by simpa using hya
                    clear hya
                    go_wp2
                    refine wp_text_all (by kernel_rfl) (by kernel_rfl) (by kernel_rfl) (by repeat' (first | (with_reducible apply tame_then) | (with_reducible apply tame_block) | (with_reducible apply tame_scope) | exact tame_gives | exact tame_body (fun _ _ h => ⟨_, h.1⟩))) ?_
                    go_wp2
                    refine headed ?_
                    go_wp2
                    go_roundw
                    case rel => exact ⟨j + 1, by omega, by go_num, by rw [HST.out, e2]; simp, (HJ.out.alloc _).sim ⟨rfl, rfl, rfl, rfl⟩⟩
                    case measure => simp [intOf]; omega
                · have e1 : ((x : Int) == (t : Int)) = false := by rw [beq_eq_false_iff_ne]; omega
                  have e2 : (x == t) = false := by simpa using hxt
                  clear hxt
                  go_wp2
                  refine wp_text_all (by kernel_rfl) (by kernel_rfl) (by kernel_rfl) (by repeat' (first | (with_reducible apply tame_then) | (with_reducible apply tame_block) | (with_reducible apply tame_scope) | exact tame_gives | exact tame_body (fun _ _ h => ⟨_, h.1⟩))) ?_
                  go_wp2
                  refine headed ?_
                  go_wp2
                  go_roundw
                  case rel => exact ⟨j + 1, by omega, by go_num, by rw [HST.out, e2]; simp, (HJ.out.alloc _).sim ⟨rfl, rfl, rfl, rfl⟩⟩
                  case measure => simp [intOf]; omega
              · go_wp2
                refine wp_text_all (by kernel_rfl) (by kernel_rfl) (by kernel_rfl) (by repeat' (first | (with_reducible apply tame_then) | (with_reducible apply tame_block) | (with_reducible apply tame_scope) | exact tame_gives | exact tame_body (fun _ _ h => ⟨_, h.1⟩))) ?_
                go_wp2
                refine headed ?_
                go_wp2
                go_roundw
                case rel => exact ⟨j + 1, by omega, by go_num, by rw [HST.out]; simp, (HJ.out.alloc _).sim ⟨rfl, rfl, rfl, rfl⟩⟩
                case measure => simp [intOf]; omega
            · obtain rfl : j = q := by omega
              have c2 := HJ.out.cellB 0 rfl 2 (by omega)
              simp only [ofL_2] at c2
              have r1 := HJ.out.cell1 6 rfl (j := a) han
              by_cases hR : s.R a = 2
              · have hm := isLed_mem (HLAW.out.2 a hR)
                rw [HLL.out] at hm
                rw [hR] at r1
                rw [hm]
                clear hR hm
                go_wp2
                go_roundw
                case rel => exact ⟨a + 1, by omega, by go_num, HJ.out⟩
                case measure => simp [intOf]; omega
              · have e1 : (s.R a == 2) = false := by simpa using hR
                clear hR
                go_wp2
                go_roundw
                case rel => exact ⟨a + 1, by omega, by go_num, HJ.out⟩
                case measure => simp [intOf]; omega
        · go_wp2
          go_ret
          exact ⟨rfl, HQ.out.bel⟩
theorem electOne_bad (n : Int) (m cap : Nat) (A : Option Addr) (w : World) (hm : m ≤ maxLen) (hb : playedB n m = false) :
    Calls Try.prog 3 #[.int .i64 n, .slice A m cap] w fun e w' => e = .returned (.bool true) ∧ Below w.heap.size w w' := by
  have HB := Lib.hid hb; clear hb
  have HM := Lib.hid hm; clear hm
  go_enter Try.func3, Try.ntmps3
  go_wp2_with fail
  refine (el_bad' n m cap A w HM.out HB.out).mono ?_
  rintro e w1 ⟨rfl, hb1⟩
  have HB1 := Lib.hid hb1; clear hb1
  go_wp2_with (go_at_call 7; refine (bool_is (played_any n m _) HB.out).mono ?_; rintro e w3 ⟨rfl, rfl⟩)
  go_ret
  exact ⟨rfl, HB1.out.alloc HB1.out.size _⟩
theorem electOne_all (n : Int) (A : Option Addr) (m cap : Nat) (M : Mv) (w : World) (_ : (Lit.int .i64 n).wf = true) (hmc : m ≤ cap ∧ cap ≤ maxLen) (hr : Rd w w.heap.size A (m * 4) (mvF M)) :
    Calls Try.prog 3 #[.int .i64 n, .slice A m cap] w fun e w' => e = .returned (.bool true) ∧ Below w.heap.size w w' := by
  cases hb : playedB n m
  · exact electOne_bad n m cap A w (by omega) hb
  · obtain ⟨h1, h2, h3⟩ := playedB_iff.1 hb
    obtain ⟨k, rfl⟩ := Int.eq_ofNat_of_zero_le (show 0 ≤ n by omega)
    exact electOne_good k m cap A M w hr (by omega) (by omega) (by omega)
end Go.Proofs.Ytlfffanadoldpaa
