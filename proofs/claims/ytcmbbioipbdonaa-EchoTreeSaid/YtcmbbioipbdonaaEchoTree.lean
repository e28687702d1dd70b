/- The law EchoTree, walked. -/
import Derived.Test.YtcmbbioipbdonaaEcLaw
set_option linter.unusedVariables false
set_option linter.unusedSimpArgs false
namespace Go.Proofs.Ytcmbbioipbdonaa
open Go.RowKit

set_option maxRecDepth 100000 in
set_option maxHeartbeats 3200000 in
theorem echoTree_good (n st : Nat) (A AO : Option Addr) (m cap mo co : Nat) (p q : Nat → Nat) (o : Nat → Int) (w : World) (hm : m ≤ cap ∧ cap ≤ maxLen) (hmo : mo ≤ 60) (hr : Rd w w.heap.size A (m * 2) (recF2 (fun i => (p i : Nat)) (fun i => (q i : Nat)))) (hro : Rd w w.heap.size AO mo (fun j => .int .i64 (o j))) (h1 : 1 ≤ n) (hst : st < n) (hlk : LkP n m p q)
    (hok : LkOk (n : Nat) m (fun i => (p i : Nat)) (fun i => (q i : Nat)) (st : Nat) mo) :
    Calls Try.prog 3 #[.int .i64 (n : Nat), .slice A m cap, .int .i64 (st : Nat), .slice AO mo co] w fun e w' => e = .returned (.bool true) ∧ Below w.heap.size w w' := by
  obtain ⟨rc, dep, hEI⟩ := EI.all hlk hst o mo
  have HT := Lib.hid (hEI.tree (m := m) (p := p) (q := q) (near_all o (ec1 p q m st) mo))
  clear hEI
  have HR := Lib.hid hr; clear hr
  have HRO := Lib.hid hro; clear hro
  have HM := Lib.hid hm; clear hm
  have HK := Lib.hid hlk
  have HOK := Lib.hid hok; clear hok
  have h6 := hlk.h6
  have hm15 := hlk.hm
  clear hlk
  go_enter Try.func3, Try.ntmps3
  go_wp2_with fail
  refine (play_good n st A AO m cap mo co _ p q o w HM.out hmo (Nat.le_refl _) HR.out HRO.out h1 hst HK.out).mono ?_
  rintro e w4 ⟨v, rfl, AC, cC, gf, cf, rfl, hL4⟩
  obtain ⟨F, hF⟩ : ∃ F, F = upd (ecE (ec1 p q m st) o mo).frm st (-1) := ⟨_, rfl⟩
  rw [← hF] at hL4 HT
  obtain ⟨Hd, hHd⟩ : ∃ Hd : Nat → Prop, Hd = fun a => (ecE (ec1 p q m st) o mo).frm a ≠ -1 := ⟨_, rfl⟩
  rw [← hHd] at HT
  clear hF hHd
  generalize decide ((ecE (ec1 p q m st) o mo).wait st = 0) = bd
  generalize (ecE (ec1 p q m st) o mo).sent = sn
  have HL := Lib.hid ((hL4.newB [.slice AC mo cC, .slice (some ⟨gf, 0, none⟩) n cf, .bool bd, .int .i64 (sn : Nat)] 26 4 rfl _ rfl).perm (L' := [blk w4.heap.size 26 4 (ofL [.slice AC mo cC, .slice (some ⟨gf, 0, none⟩) n cf, .bool bd, .int .i64 (sn : Nat)]), ⟨some ⟨gf, 0, none⟩, 3, 1, n, cf, fun i => .int .i64 (F i)⟩]) [0, 2] (by decide) rfl)
  clear hL4
  go_wp2_with fail
  refine at_lay (F := fun W' => Calls _ _ _ W' _) HL.out ?_
  intro W hW
  have HW := Lib.hid hW
  clear hW HL
  generalize w4.heap.size = bo at HW ⊢
  refine (linked_yes (n : Nat) (st : Nat) A m cap mo _ _ W HM.out ((HR.out.below HW.out.bel).more HW.out.size) HOK.out).mono ?_
  rintro e w5 ⟨v, rfl, rfl, hb⟩
  have HX := Lib.hid (HW.out.keep hb)
  clear hb HW
  have c0 := HX.out.cellB 0 rfl 0 (by omega)
  have c1 := HX.out.cellB 0 rfl 1 (by omega)
  have r1 := HX.out.cell1 1 rfl (j := st) hst
  simp only [ofL_0, ofL_1] at c0 c1
  rw [HT.out.s] at r1
  have hb0 := (HX.out.at_ 0 rfl).2
  go_wp2
  clear c0 c1 r1
  go_loopw [63] (fun i wr => ∃ k : Nat, k ≤ n ∧ i = .int .i64 (k : Nat) ∧ Hid (Lay w wr [blk bo 26 4 (ofL [.slice AC mo cC, .slice (some ⟨gf, 0, none⟩) n cf, .bool bd, .int .i64 (sn : Nat)]), ⟨some ⟨gf, 0, none⟩, 3, 1, n, cf, fun i => .int .i64 (F i)⟩])) (fun i _ => n - (intOf i).toNat)
  case atStart => exact ⟨0, by omega, rfl, HX⟩
  case round =>
    clear HX
    obtain ⟨i, hi, rfl, HX⟩ := hrel
    have c1 := HX.out.cellB 0 rfl 1 (by omega)
    simp only [ofL_1] at c1
    by_cases hlt : i < n
    · have ri := HX.out.cell1 1 rfl (j := i) hlt
      rcases HT.out.at_ i hlt with hF | ⟨hHi, f, hF, hfn, hlf⟩
      · rw [hF] at ri
        clear hF
        go_wp2
        go_roundw
        case rel => exact ⟨i + 1, by omega, by go_num, HX⟩
        case measure => simp [intOf]; omega
      · rw [hF] at ri
        have HHI := Lib.hid hHi
        have HLF := Lib.hid hlf
        have HFI := Lib.hid hF
        clear hF hHi hlf
        have hf1 : ((f : Int) == -1) = false := by rw [beq_eq_false_iff_ne]; omega
        go_wp2_with (go_at_call 8; refine (inside1 true (n : Nat) (f : Nat) wr 3 wr.heap.size rfl (by simp; omega)).mono ?_; rintro e w3 ⟨rfl, rfl⟩)
        have HY := Lib.hid (HX.out.alloc (.cells #[.int .i64 (f : Nat)] 3))
        clear HX c1 ri
        go_loopw [13, 77] (fun z t wr => ∃ k : Nat, k ≤ m ∧ t = .int .i64 (k : Nat) ∧ z = .bool (lkHas p q i f k) ∧ Hid (Lay w wr [blk bo 26 4 (ofL [.slice AC mo cC, .slice (some ⟨gf, 0, none⟩) n cf, .bool bd, .int .i64 (sn : Nat)]), ⟨some ⟨gf, 0, none⟩, 3, 1, n, cf, fun i => .int .i64 (F i)⟩])) (fun _ t _ => m - (intOf t).toNat)
        case atStart => exact ⟨0, by omega, rfl, rfl, HY⟩
        case round =>
          clear HY
          obtain ⟨k, hk, rfl, rfl, HX⟩ := hrel
          by_cases hlm : k < m
          · obtain ⟨ad, rfl, hbl, m0, m1⟩ := (HR.out.below HX.out.bel).rec2 hlm
            have hsz := HX.out.size
            have hbl2 : (ad.add (k * 2)).block < wr.heap.size := by rw [addr_block]; omega
            have hst2 : lkHas p q i f (k + 1) = ((lkHas p q i f k || (p k == i && q k == f)) || (q k == i && p k == f)) := rfl
            generalize p k = x at *
            generalize q k = y at *
            obtain ⟨e1, h1⟩ : ∃ b, (x == i) = b := ⟨_, rfl⟩
            obtain ⟨e2, h2⟩ : ∃ b, (y == f) = b := ⟨_, rfl⟩
            obtain ⟨e3, h3⟩ : ∃ b, (y == i) = b := ⟨_, rfl⟩
            obtain ⟨e4, h4⟩ : ∃ b, (x == f) = b := ⟨_, rfl⟩
            have h1' : ((x : Int) == (i : Int)) = e1 := by rw [← h1, Bool.eq_iff_iff, beq_iff_eq, beq_iff_eq]; omega
            have h2' : ((y : Int) == (f : Int)) = e2 := by rw [← h2, Bool.eq_iff_iff, beq_iff_eq, beq_iff_eq]; omega
            have h3' : ((y : Int) == (i : Int)) = e3 := by rw [← h3, Bool.eq_iff_iff, beq_iff_eq, beq_iff_eq]; omega
            have h4' : ((x : Int) == (f : Int)) = e4 := by rw [← h4, Bool.eq_iff_iff, beq_iff_eq, beq_iff_eq]; omega
            rw [h1, h2, h3, h4] at hst2
            cases hz : lkHas p q i f k
            · rw [hz] at hst2
              cases e1 <;> cases e2 <;> cases e3 <;> cases e4
              all_goals
                go_wp2
                go_roundw
                case rel => exact ⟨k + 1, by omega, by go_num, by rw [hst2]; rfl, HX.out.alloc _⟩
                case measure => simp [intOf]; omega
            · rw [hz] at hst2
              cases e3 <;> cases e4
              all_goals
                go_wp2
                go_roundw
                case rel => exact ⟨k + 1, by omega, by go_num, by rw [hst2]; rfl, HX.out.alloc _⟩
                case measure => simp [intOf]; omega
          · obtain rfl : m = k := by omega
            rw [HLF.out]
            go_wp2
            go_loopw [16, 17] (fun z t wr => ∃ a s : Nat, a < n ∧ z = .int .i64 (a : Nat) ∧ t = .int .i64 (s : Nat) ∧ dep a + s < n ∧ Hd a ∧ Hid (Lay w wr [blk bo 26 4 (ofL [.slice AC mo cC, .slice (some ⟨gf, 0, none⟩) n cf, .bool bd, .int .i64 (sn : Nat)]), ⟨some ⟨gf, 0, none⟩, 3, 1, n, cf, fun i => .int .i64 (F i)⟩])) (fun _ t _ => n - (intOf t).toNat)
            case atStart => exact ⟨i, 0, hlt, rfl, rfl, HT.out.lt i hlt HHI.out, HHI.out, HX⟩
            case round =>
              clear HX
              obtain ⟨a, s, han, rfl, rfl, hds, hHa, HX⟩ := hrel
              have c1 := HX.out.cellB 0 rfl 1 (by omega)
              simp only [ofL_1] at c1
              have hsn : s < n := by omega
              by_cases has : a = st
              · subst has
                clear hHa hds
                go_wp2
                go_roundw
                case rel => exact ⟨i + 1, by omega, by go_num, HX⟩
                case measure => simp [intOf]; omega
              · have ra := HX.out.cell1 1 rfl (j := a) han
                obtain ⟨b, hbn, hFa, hHb, hdb⟩ := (HT.out.up a han hHa).resolve_left has
                rw [hFa] at ra
                have HHB := Lib.hid hHb
                have has1 : ((a : Int) == (st : Int)) = false := by rw [beq_eq_false_iff_ne]; omega
                have has2 : (a == st) = false := by rw [beq_eq_false_iff_ne]; omega
                have hds2 : dep b + (s + 1) < n := by omega
                have HDS := Lib.hid hds2
                clear hFa hHb hHa hds hdb has hds2
                go_wp2_with (go_at_call 8; refine (inside1 true (n : Nat) (b : Nat) wr 3 wr.heap.size rfl (by simp; omega)).mono ?_; rintro e w3 ⟨rfl, rfl⟩)
                go_roundw
                case rel => exact ⟨b, s + 1, hbn, rfl, by go_num, HDS.out, HHB.out, HX.out.alloc _⟩
                case measure => simp [intOf]; omega
    · obtain rfl : n = i := by omega
      go_wp2
      go_ret
      exact ⟨rfl, HX.out.bel⟩
set_option maxRecDepth 100000 in
set_option maxHeartbeats 1600000 in
theorem echoTree_bad (n st : Int) (A AO : Option Addr) (m cap mo co : Nat) (p q : Nat → Int) (w : World) (hm : m ≤ cap ∧ cap ≤ maxLen) (hmo : mo ≤ maxLen) (hr : Rd w w.heap.size A (m * 2) (recF2 p q)) (hno : ¬ LkOk n m p q st mo) :
    Calls Try.prog 3 #[.int .i64 n, .slice A m cap, .int .i64 st, .slice AO mo co] w fun e w' => e = .returned (.bool true) ∧ Below w.heap.size w w' := by
  have HR := Lib.hid hr; clear hr
  have HM := Lib.hid hm; clear hm
  have HN := Lib.hid hno; clear hno
  have HMO := Lib.hid hmo
  unfold maxLen at hmo
  go_enter Try.func3, Try.ntmps3
  go_wp2_with fail
  refine (play_bad n st A AO m cap mo co _ p q w HM.out HMO.out (Nat.le_refl _) HR.out HN.out).mono ?_
  rintro e w4 ⟨v, rfl, ⟨c, rfl, hc⟩, hb⟩
  have HB := Lib.hid (hb.alloc hb.size (.cells #[.slice none 0 0, .slice none 0 0, .bool false, .int .i64 0] 26))
  clear hb
  go_wp2_with fail
  refine (linked_no n st A m cap mo _ _ _ HM.out HMO.out ((HR.out.below HB.out).more HB.out.size) HN.out).mono ?_
  rintro e w5 ⟨v, rfl, rfl, hb⟩
  have HX := Lib.hid (HB.out.trans (hb.mono HB.out.size))
  clear hb
  go_wp2
  go_ret
  exact ⟨ret_bool (show (c != 0) = true by rw [bne, hc]; rfl), HX.out⟩
theorem echoTree_all (n : Int) (A : Option Addr) (m cap : Nat) (p q : Nat → Int) (st : Int) (AO : Option Addr) (mo co : Nat) (o : Nat → Int) (w : World) (_ : (Lit.int .i64 n).wf = true) (hm : m ≤ cap ∧ cap ≤ maxLen) (hr : Rd w w.heap.size A (m * 2) (recF2 p q)) (_ : (Lit.int .i64 st).wf = true) (hmo : mo ≤ co ∧ co ≤ maxLen) (_ : ∀ j, j < mo → (Lit.int .i64 (o j)).wf = true) (hro : Rd w w.heap.size AO mo (fun j => .int .i64 (o j))) :
    Calls Try.prog 3 #[.int .i64 n, .slice A m cap, .int .i64 st, .slice AO mo co] w fun e w' => e = .returned (.bool true) ∧ Below w.heap.size w w' := by
  by_cases h : LkOk n m p q st mo
  · obtain ⟨n', st', p', q', rfl, rfl, h1, h2, h3, h4, h5⟩ := lk_nat h
    exact echoTree_good n' st' A AO m cap mo co p' q' o w hm h5 (rd_nat hr h2) hro h3 h4 h1 (lkOk_nat h1 h3 h4 h5)
  · exact echoTree_bad n st A AO m cap mo co p q w hm (by omega) hr h
end Go.Proofs.Ytcmbbioipbdonaa
