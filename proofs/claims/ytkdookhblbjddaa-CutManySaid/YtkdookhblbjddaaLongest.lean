/- The walk of tick.Longest. -/
import Derived.Test.YtkdookhblbjddaaTickMath
import Derived.Test.YtkdookhblbjddaaCut1
set_option linter.unusedVariables false
set_option linter.unusedSimpArgs false
namespace Go.Proofs.Ytkdookhblbjddaa
open Go.RowKit

def numN (f : Nat → Nat) (i : Nat) : Value := .int .i64 (f i : Nat)
theorem one_num (i : Nat) : ∀ j, j < 1 → (#[Value.int .i64 (i : Nat)])[j]? = some (.int .i64 (((fun _ => i) j : Nat) : Int)) := fun j hj => by
  obtain rfl : j = 0 := by omega
  rfl
theorem longest_bad (n : Int) (A : Option Addr) (len cap B : Nat) (E : Ev) (w : World) (hm : len ≤ maxLen) (hB : B ≤ w.heap.size) (hr : Rd w B A (len * 3) (evF E)) (hbad : runCode n E len ≠ 0) :
    Calls Try.prog 21 #[.int .i64 n, .slice A len cap] w fun e w' => e = .returned (.tuple #[.slice none 0 0, .int .i64 (runCode n E len)]) ∧ Below w.heap.size w w' := by
  have HC := Lib.hid (check_any n A len cap B E w hm hB hr)
  have hb' : (runCode n E len == 0) = false := beq_eq_false_iff_ne.2 hbad
  have hb2 : (runCode n E len != 0) = true := bne_iff_ne.2 hbad
  clear hbad hr
  go_enter Try.func21, Try.ntmps21
  go_wp2_with fail
  refine HC.out.mono ?_
  rintro e w1 ⟨rfl, hb1⟩
  have HB1 := Lib.hid hb1; clear hb1
  go_wp2
  go_ret2
  exact ⟨rfl, HB1.out⟩
set_option maxRecDepth 100000 in
set_option maxHeartbeats 4000000 in
theorem longest_good (n : Nat) (A : Option Addr) (len cap : Nat) (E : Ev) (w : World) (hr : Rd w w.heap.size A (len * 3) (evF E)) (hg : runCode n E len = 0) :
    Calls Try.prog 21 #[.int .i64 (n : Nat), .slice A len cap] w
      (Gives fun v w' => ∃ (Ao : Option Addr) (k co : Nat) (O L : Nat → Nat) (most : Nat), v = .tuple #[.slice Ao k co, .int .i64 0] ∧ Lay w w' [lst Ao 3 k co (numN O)] ∧ LAll E len 0 L most ∧ Scan E len L most len k O) := by
  have HG := Lib.hid hg
  have h30 := (runCode_ok hg).1.2.2
  have HC := Lib.hid (check_any n A len cap w.heap.size E w (by unfold maxLen; omega) (Nat.le_refl _) hr)
  have HP := Lib.hid (fun (W : World) (hb : Below w.heap.size w W) => past_any n A len cap w.heap.size E W hg hb.size (hr.below hb))
  clear hg hr
  obtain ⟨iI, hiI, hzI0, hzI1, hzI2⟩ := info_parts infoIV
  go_enter Try.func21, Try.ntmps21
  go_wp2_with fail
  refine (int_is_b HC.out HG.out).mono ?_
  rintro e w1 ⟨rfl, hb⟩
  have HB1 := Lib.hid hb; clear hb HC
  go_wp2_with fail
  refine (HP.out w1 HB1.out).mono ?_
  rintro e w2 ⟨rfl, ho, hb⟩
  have HL2 : Hid (Lay w w2 [lst (some ⟨w1.heap.size + 2, 0, none⟩) 54 len len (pastF E len)]) := Lib.hid (((Lay.nil w).keep (HB1.out.trans (hb.mono HB1.out.size))).cons (ho.base_le HB1.out.size) (fun i s hi => by simp at hi))
  clear ho hb HP
  generalize w1.heap.size + 2 = gp at HL2 ⊢
  go_wp2_with (first
    | (at_make; refine wpList_mk1 rfl (.tmp 24) (.tmp 24) _ rfl 3 iI _ 8 Try.underlying34 hiI hzI0 hzI1 hzI2 rfl .i64 .i64 len rfl rfl (by omega) (by unfold maxLen; omega) w.heap.size _ rfl HL2.out.size ?_
       intro w3 ho3 he3
       have HL3 : Hid (Lay w w3 [arr w2.heap.size 3 len (numN fun _ => 0), lst (some ⟨gp, 0, none⟩) 54 len len (pastF E len)]) := by rw [he3]; exact HL2.out.make (.int .i64 0) rfl len (by unfold maxLen; omega) _ _ (fun _ _ => rfl) _ rfl
       clear ho3 he3
       generalize w2.heap.size = g at HL3 ⊢)
    | fail)
  clear HL2 HB1
  have HPW : Hid (∀ j, j < len → pastF E len j = .int .u32 (pastW E j : Nat) ∧ pastW E j < 4294967296) := Lib.hid fun j hj => ⟨by unfold pastF; rw [if_pos hj], pastW_lt HG.out hj⟩
  go_loopw [9, 10] (fun m y wr => ∃ (i most : Nat) (L : Nat → Nat), i ≤ len ∧ y = .int .i64 ((i : Int) - 1) ∧ m = .int .i64 (most : Nat) ∧ Hid (LAll E len i L most) ∧ most ≤ len ∧ Hid (Lay w wr [arr g 3 len (numN L), lst (some ⟨gp, 0, none⟩) 54 len len (pastF E len)])) (fun _ y _ => (intOf y + 1).toNat)
  case atStart => exact ⟨len, 0, fun _ => 0, Nat.le_refl _, rfl, rfl, lall_start E len _, by omega, HL3⟩
  case round =>
    clear HL3
    obtain ⟨i, most, L, hi, rfl, rfl, HA, hml, HL⟩ := hrel
    rcases Nat.eq_zero_or_pos i with h0 | hpos
    · subst h0
      have e0 : ((0 : Nat) : Int) - 1 = -1 := by omega
      rw [e0]
      go_wp2
      go_loopw [12, 73] (fun o y wr => ∃ (i kk : Nat) (Ao : Option Addr) (co : Nat) (O : Nat → Nat), y = .int .i64 i ∧ o = .slice Ao kk co ∧ Hid (Lay w wr [lst Ao 3 kk co (numN O), arr g 3 len (numN L), lst (some ⟨gp, 0, none⟩) 54 len len (pastF E len)]) ∧ Hid (Scan E len L most i kk O)) (fun _ y _ => len - (intOf y).toNat)
      case atStart => exact ⟨0, 0, none, 0, fun _ => 0, rfl, rfl, Lib.hid (HL.out.lnil 3 1 _), Lib.hid (scan_start E len L most _)⟩
      case round =>
        clear HL
        obtain ⟨i, kk, Ao, co, O, rfl, rfl, HL, HS⟩ := hrel
        have hil := HS.out.ile
        have hkm := HS.out.kle
        have hzz := HL.out.size
        by_cases hlt : i < len
        · have c0 := HL.out.cell1 1 rfl hlt
          have c1 := HL.out.cell1 2 rfl hlt
          rw [(HPW.out i hlt).1] at c1
          have hga := (HL.out.at_ 1 rfl).2
          have hgp := (HL.out.at_ 2 rfl).2
          unfold numN at c0
          have HL1 : Hid (∀ j, j < len → 1 ≤ L j) := Lib.hid fun j hj => (HA.out.sp j (Nat.zero_le _) hj).1.1
          have hbit := fun x => bit_at (P := pastW E i) (i := x) (HPW.out i hlt).2
          by_cases heq : L i + kk = most
          · have he : ((L i : Int) == (most : Int) - (kk : Int)) = true := by rw [beq_iff_eq]; omega
            rcases Nat.eq_zero_or_pos kk with hk0 | hkp
            · subst hk0
              have HT := Lib.hid (scan_take HL1.out HS.out hlt heq (.inl rfl))
              clear hbit heq hkm
              have he2 : ((L i : Int) == (most : Int)) = true := by simpa using he
              have HRI : Hid (Rd (wr.alloc (.cells #[.int .i64 (i : Nat)] 3)).drew (wr.heap.size + 1) (some ⟨wr.heap.size, 0, none⟩) 1 (fun j => Value.int .i64 (((fun _ => i) j : Nat) : Int))) := Lib.hid ((cell_new wr _ _ (fun j => Value.int .i64 (((fun _ => i) j : Nat) : Int)) _ rfl (one_num i)).below (Below.refl _ _).drew)
              go_wp2
              refine wp_text_all (by kernel_rfl) (by kernel_rfl) (by kernel_rfl) (by repeat' (first | (with_reducible apply tame_then) | (with_reducible apply tame_block) | (with_reducible apply tame_scope) | exact tame_gives | exact tame_body (fun _ _ h => ⟨_, h.1⟩))) ?_
              go_wp2
              refine headed ?_
              go_wp2_with (at_builtin; refine wpList_ap1 rfl (.tmp 105) (.tmp 107) _ rfl 3 iI _ 8 Try.underlying34 hiI hzI0 hzI1 hzI2 rfl w.heap.size rfl ((HL.out.alloc _).drew.own 0 _ rfl) rfl HRI.out (fun j _ => rfl) (numN (fun t => if t = 0 then i else O t)) (fun j hj => by unfold numN; dsimp only; rw [if_neg (by omega)]) (fun j hj => by unfold numN; dsimp only; rw [if_pos (by omega)]) (0 + 1) rfl (by unfold maxLen; omega) (by omega) (by have := HL.out.size; simp; omega) ?_
                           intro A2 cap2 w2 ho2 hg2 he2
                           have HL2 : Hid (Lay w w2 [lst A2 3 (0 + 1) cap2 (numN (fun t => if t = 0 then i else O t)), arr g 3 len (numN L), lst (some ⟨gp, 0, none⟩) 54 len len (pastF E len)]) := (HL.out.alloc _).drew.app 0 rfl ho2 hg2 he2
                           clear ho2 hg2 he2)
              go_roundw
              case rel => exact ⟨i + 1, 0 + 1, A2, cap2, _, by go_num, by go_num, HL2, Lib.hid HT.out⟩
              case measure => simp [intOf]; omega
            · obtain ⟨t, rfl⟩ : ∃ t, kk = t + 1 := ⟨kk - 1, by omega⟩
              obtain ⟨ga, rfl, -⟩ := (HL.out.own 0 _ rfl).pos (by show 0 < t + 1; omega)
              have c2 := HL.out.cell1 0 rfl (j := t) (by omega)
              unfold numN at c2
              have hgo := (HL.out.at_ 0 rfl).2
              have hbt := hbit (O t)
              have hot := (HS.out.on t (by omega)).1
              have htl : t + 1 ≤ 30 := by omega
              cases hb : (pastW E i).testBit (O t)
              · have HN : Hid (L i + (t + 1) = most → 0 < t + 1 ∧ ¬ Hb E (O (t + 1 - 1)) i) := Lib.hid fun _ => ⟨by omega, fun h => by
                  unfold Hb at h
                  rw [Nat.add_sub_cancel, hb] at h
                  cases h⟩
                rw [hb] at hbt
                clear hb hbit heq hkm
                generalize hkk : t + 1 = kk at *
                have hk0 : ((kk : Int) == 0) = false := by rw [beq_eq_false_iff_ne]; omega
                have hkt : (kk : Int) - 1 = (t : Int) := by omega
                have hk1 : kk ≠ 0 := by omega
                clear hkk
                go_wp2
                refine wp_text_all (by kernel_rfl) (by kernel_rfl) (by kernel_rfl) (by repeat' (first | (with_reducible apply tame_then) | (with_reducible apply tame_block) | (with_reducible apply tame_scope) | exact tame_gives | exact tame_body (fun _ _ h => ⟨_, h.1⟩))) ?_
                go_wp2
                refine headed ?_
                go_wp2
                go_roundw
                case rel => exact ⟨i + 1, kk, some ⟨ga, 0, none⟩, co, O, by go_num, rfl, Lib.hid HL.out.drew, Lib.hid (scan_skip HS.out hlt HN.out)⟩
                case measure => simp [intOf]; omega
              · have HT := Lib.hid (scan_take HL1.out HS.out hlt heq (.inr (by unfold Hb; rw [Nat.add_sub_cancel]; exact hb)))
                rw [hb] at hbt
                clear hb hbit heq hkm
                generalize hkk : t + 1 = kk at *
                have hk0 : ((kk : Int) == 0) = false := by rw [beq_eq_false_iff_ne]; omega
                have hkt : (kk : Int) - 1 = (t : Int) := by omega
                have hk1 : kk ≠ 0 := by omega
                clear hkk
                have HRI : Hid (Rd (wr.alloc (.cells #[.int .i64 (i : Nat)] 3)).drew (wr.heap.size + 1) (some ⟨wr.heap.size, 0, none⟩) 1 (fun j => Value.int .i64 (((fun _ => i) j : Nat) : Int))) := Lib.hid ((cell_new wr _ _ (fun j => Value.int .i64 (((fun _ => i) j : Nat) : Int)) _ rfl (one_num i)).below (Below.refl _ _).drew)
                go_wp2
                refine wp_text_all (by kernel_rfl) (by kernel_rfl) (by kernel_rfl) (by repeat' (first | (with_reducible apply tame_then) | (with_reducible apply tame_block) | (with_reducible apply tame_scope) | exact tame_gives | exact tame_body (fun _ _ h => ⟨_, h.1⟩))) ?_
                go_wp2
                refine headed ?_
                go_wp2_with (at_builtin; refine wpList_ap1 rfl (.tmp 105) (.tmp 107) _ rfl 3 iI _ 8 Try.underlying34 hiI hzI0 hzI1 hzI2 rfl w.heap.size rfl ((HL.out.alloc _).drew.own 0 _ rfl) rfl HRI.out (fun j _ => rfl) (numN (fun t => if t = kk then i else O t)) (fun j hj => by unfold numN; dsimp only; rw [if_neg (by omega)]) (fun j hj => by unfold numN; dsimp only; rw [if_pos (by omega)]) (kk + 1) rfl (by unfold maxLen; omega) (by omega) (by have := HL.out.size; simp; omega) ?_
                             intro A2 cap2 w2 ho2 hg2 he2
                             have HL2 : Hid (Lay w w2 [lst A2 3 (kk + 1) cap2 (numN (fun t => if t = kk then i else O t)), arr g 3 len (numN L), lst (some ⟨gp, 0, none⟩) 54 len len (pastF E len)]) := (HL.out.alloc _).drew.app 0 rfl ho2 hg2 he2
                             clear ho2 hg2 he2)
                go_roundw
                case rel => exact ⟨i + 1, kk + 1, A2, cap2, _, by go_num, by go_num, HL2, Lib.hid HT.out⟩
                case measure => simp [intOf]; omega
          · have he : ((L i : Int) == (most : Int) - (kk : Int)) = false := by rw [beq_eq_false_iff_ne]; omega
            have HN : Hid (L i + kk = most → 0 < kk ∧ ¬ Hb E (O (kk - 1)) i) := Lib.hid fun h => absurd h heq
            clear hbit heq
            go_wp2
            refine wp_text_all (by kernel_rfl) (by kernel_rfl) (by kernel_rfl) (by repeat' (first | (with_reducible apply tame_then) | (with_reducible apply tame_block) | (with_reducible apply tame_scope) | exact tame_gives | exact tame_body (fun _ _ h => ⟨_, h.1⟩))) ?_
            go_wp2
            refine headed ?_
            go_wp2
            go_roundw
            case rel => exact ⟨i + 1, kk, Ao, co, O, by go_num, rfl, Lib.hid HL.out.drew, Lib.hid (scan_skip HS.out hlt HN.out)⟩
            case measure => simp [intOf]; omega
        · obtain rfl : i = len := by omega
          go_wp2
          go_ret2
          exact ⟨_, rfl, Ao, kk, co, O, L, most, rfl, HL.out.perm [0] (by decide) rfl, HA.out, HS.out⟩
    · obtain ⟨k, rfl⟩ : ∃ k, i = k + 1 := ⟨i - 1, by omega⟩
      have hkl : k < len := by omega
      have e : ((k + 1 : Nat) : Int) - 1 = (k : Int) := by omega
      rw [e]
      have hck := HL.out.cell1 0 rfl hkl
      have hfz := HL.out.frz 0 rfl (by omega) k
      have hga := (HL.out.at_ 0 rfl).2
      have HL1 : Hid (Lay w (wr.setCell ⟨g, k, none⟩ (.int .i64 1)) [arr g 3 len (numN (upd L k 1)), lst (some ⟨gp, 0, none⟩) 54 len len (pastF E len)]) := Lib.hid (HL.out.upd (mk := fun x : Nat => Value.int .i64 (x : Nat)) 0 1 rfl hkl)
      go_wp2
      clear hck hfz hga HL
      go_loopw [11] (fun y wr => ∃ j x : Nat, y = .int .i64 (j : Nat) ∧ j ≤ len ∧ k < j ∧ Hid (LIn E L k j x) ∧ Hid (Lay w wr [arr g 3 len (numN (upd L k x)), lst (some ⟨gp, 0, none⟩) 54 len len (pastF E len)])) (fun y _ => len - (intOf y).toNat)
      case atStart => exact ⟨k + 1, 1, by go_num, by omega, by omega, Lib.hid (lin_start E L k), HL1⟩
      case round =>
        clear HL1
        obtain ⟨j, x, rfl, hj, hkj, HX, HL⟩ := hrel
        have hxl := lin_le HA.out HX.out hj
        by_cases hlt : j < len
        · have c0 := HL.out.cell1 0 rfl hkl
          have c1 := HL.out.cell1 0 rfl hlt
          have c2 := HL.out.cell1 1 rfl hlt
          rw [(HPW.out j hlt).1] at c2
          unfold numN at c0 c1
          rw [upd_same] at c0
          rw [upd_ne _ _ (show j ≠ k by omega)] at c1
          have hga := (HL.out.at_ 0 rfl).2
          have hgp := (HL.out.at_ 1 rfl).2
          have hfz := HL.out.frz 0 rfl (by omega) k
          have hbt := bit_at (P := pastW E j) (i := k) (HPW.out j hlt).2
          have hlj := (HA.out.sp j (by omega) hlt).2
          cases hb : (pastW E j).testBit k
          · have HN := Lib.hid (lin_no HX.out hb)
            rw [hb] at hbt
            clear hb
            go_wp2
            go_roundw
            case rel => exact ⟨j + 1, x, by go_num, by omega, by omega, HN, HL⟩
            case measure => simp [intOf]; omega
          · have HY := Lib.hid (lin_yes HX.out hkj hb)
            rw [hb] at hbt
            clear hb
            have HU : Hid (∀ y, Lay w (wr.setCell ⟨g, k, none⟩ (.int .i64 (y : Nat))) [arr g 3 len (numN (upd L k y)), lst (some ⟨gp, 0, none⟩) 54 len len (pastF E len)]) := Lib.hid fun y => by
              have := HL.out.upd (mk := fun x : Nat => Value.int .i64 (x : Nat)) 0 y rfl hkl
              have uu : upd (upd L k x) k y = upd L k y := by
                funext t
                simp only [upd_apply]
                split <;> rfl
              rw [uu] at this
              exact this
            obtain ⟨z, hz⟩ : ∃ z, L j = z := ⟨_, rfl⟩
            rw [hz] at c1 HY hlj
            clear hz
            by_cases hm : x < z + 1
            · rw [Nat.max_eq_right (by omega)] at HY
              go_wp2
              refine wp_text 13 (by kernel_rfl) (by kernel_rfl) (by kernel_rfl) (by repeat' (first | (with_reducible apply tame_then) | (with_reducible apply tame_block) | (with_reducible apply tame_scope) | exact tame_gives | exact tame_body (fun _ _ h => ⟨_, h.1⟩))) ?_
              simp only [List.take_succ_cons, List.take_zero, List.drop_succ_cons, List.drop_zero]
              go_wp2
              refine headed ?_
              go_wp2
              go_roundw
              case rel => exact ⟨j + 1, z + 1, by go_num, by omega, by omega, HY, Lib.hid ((HU.out (z + 1)).sim ⟨rfl, rfl, rfl, rfl⟩)⟩
              case measure => simp [intOf]; omega
            · rw [Nat.max_eq_left (by omega)] at HY
              go_wp2
              refine wp_text 13 (by kernel_rfl) (by kernel_rfl) (by kernel_rfl) (by repeat' (first | (with_reducible apply tame_then) | (with_reducible apply tame_block) | (with_reducible apply tame_scope) | exact tame_gives | exact tame_body (fun _ _ h => ⟨_, h.1⟩))) ?_
              simp only [List.take_succ_cons, List.take_zero, List.drop_succ_cons, List.drop_zero]
              go_wp2
              refine headed ?_
              go_wp2
              go_roundw
              case rel => exact ⟨j + 1, x, by go_num, by omega, by omega, HY, Lib.hid ((HU.out x).sim ⟨rfl, rfl, rfl, rfl⟩)⟩
              case measure => simp [intOf]; omega
        · obtain rfl : j = len := by omega
          have c0 := HL.out.cell1 0 rfl hkl
          unfold numN at c0
          rw [upd_same] at c0
          have HST := Lib.hid (lall_step HA.out HX.out (upd L k x) (upd_same _ _ _) (fun t ht => upd_ne _ _ ht))
          by_cases hm : most < x
          · rw [Nat.max_eq_right (by omega)] at HST
            go_wp2
            go_roundw
            case rel => exact ⟨k, x, _, by omega, by go_num, rfl, HST, by omega, HL⟩
            case measure => simp [intOf]
          · rw [Nat.max_eq_left (by omega)] at HST
            go_wp2
            go_roundw
            case rel => exact ⟨k, most, _, by omega, by go_num, rfl, HST, hml, HL⟩
            case measure => simp [intOf]
end Go.Proofs.Ytkdookhblbjddaa
