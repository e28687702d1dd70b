/- The law CutWay, walked. -/
import Derived.Test.YthonnpimfidkdaaWay
set_option linter.unusedVariables false
set_option linter.unusedSimpArgs false
namespace Go.Proofs.Ythonnpimfidkdaa
open Go.RowKit

/-- Was it sent by the first t? -/
def sentB (E : Ev) (x : Nat) : Nat → Bool
  | 0 => false
  | t + 1 => sentB E x t || (E.k t == 2 && E.m t == (x : Int))
theorem sentB_of {n len : Nat} {E : Ev} {x : Nat} (hg : runCode n E len = 0) : ∀ {t i : Nat}, t ≤ len → i < t → E.k i = 2 → mN E i = x → sentB E x t = true
  | 0, i, _, hi, _, _ => by omega
  | t + 1, i, ht, hi, hk, hm => by
    simp only [sentB, Bool.or_eq_true, Bool.and_eq_true, beq_iff_eq]
    rcases Nat.lt_succ_iff_lt_or_eq.1 hi with hl | rfl
    · exact .inl (sentB_of hg (by omega) hl hk hm)
    · exact .inr ⟨hk, by rw [(ev_msg hg (show i < len by omega) (by omega)).1, hm]⟩
/-- What the law asks of what Way gave. -/
structure RiseI (E : Ev) (len : Nat) (l : List Nat) : Prop where
  snt : ∀ k, k < l.length → sentB E (lf l k) len = true
  up : ∀ k, k + 1 < l.length → lf l k < lf l (k + 1)
theorem RiseI.nil (E : Ev) (len : Nat) : RiseI E len [] := ⟨fun k hk => by simp at hk, fun k hk => by simp at hk⟩
theorem RiseI.way {n len : Nat} {E : Ev} {c : Nat → Int} (hg : runCode n E len = 0) : RiseI E len (srtN (wayL E c len)) := by
  refine ⟨fun k hk => ?_, fun k hk => ?_⟩
  · rw [lf_at hk]
    have h1 := (srtN_mem _ _).1 (List.getElem_mem hk)
    obtain ⟨i, hi, hk2, hm⟩ := wayL_sent E c h1
    exact sentB_of hg (Nat.le_refl _) hi hk2 hm
  · rw [lf_at (show k < _ by omega), lf_at hk]
    exact srtN_lt (wayL_nodup hg (Nat.le_refl _)) hk
theorem hb_below {E : Ev} {a i : Nat} (h : Hb E a i) : a < i := by
  refine Classical.byContradiction fun hn => ?_
  have h1 := (words_lt E i).2.2
  have h2 : pastW E i < 2 ^ a := Nat.lt_of_lt_of_le h1 (Nat.pow_le_pow_right (by omega) (by omega))
  have h3 : (pastW E i).testBit a = true := h
  rw [Nat.testBit_lt_two_pow h2] at h3
  cases h3
abbrev cRow (g n : Nat) (E : Ev) (t : Nat) : LRow := ⟨some ⟨g, 0, none⟩, 3, 1, n, n, fun q => .int .i64 (cntP E q t : Nat)⟩
set_option maxRecDepth 100000 in
set_option maxHeartbeats 1600000 in
theorem cutWay_out (n : Int) (A : Option Addr) (len cap : Nat) (E : Ev) (A2 : Option Addr) (m cap2 : Nat) (c : Nat → Int) (w : World) (hlen : len ≤ maxLen) (hm : m ≤ maxLen) (hr : Rd w w.heap.size A (len * 3) (evF E)) (hr2 : Rd w w.heap.size A2 m (numV c))
    (h : ¬ ∃ k : Nat, n = k ∧ runCode n E len = 0 ∧ CutOk k E len c m) :
    Calls Try.prog 4 #[.int .i64 n, .slice A len cap, .slice A2 m cap2] w fun e w' => e = .returned (.bool true) ∧ Below w.heap.size w w' := by
  have HR := Lib.hid hr; clear hr
  have HR2 := Lib.hid hr2; clear hr2
  have HLEN := Lib.hid hlen; clear hlen
  have HMM := Lib.hid hm; clear hm
  have HN := Lib.hid h; clear h
  go_enter Try.func4, Try.ntmps4
  go_wp2_with fail
  refine (way_any n A len cap w.heap.size E A2 m cap2 c w HLEN.out HMM.out (Nat.le_refl _) HR.out HR2.out).mono ?_
  rintro e w1 ⟨v, rfl, A', cp, l, x1, rfl, ⟨h1, h2, -⟩, hL⟩
  have hx1 : x1 ≠ 0 := fun h => by obtain ⟨k, a, b, c, _⟩ := h2.1 h; exact HN.out ⟨k, a, b, c⟩
  obtain rfl := h1 hx1
  have hx1b : (x1 != 0) = true := by simpa using hx1
  have HB := Lib.hid hL.bel
  clear h1 h2 hx1 hL
  go_wp2_with fail
  refine (is_any n A len cap w.heap.size E A2 m cap2 c w1 HLEN.out HMM.out HB.out.size (HR.out.below HB.out) (HR2.out.below HB.out)).mono ?_
  rintro e w2 ⟨v, rfl, b, x2, rfl, ⟨-, h2, -⟩, hb⟩
  have hx2 : x2 ≠ 0 := fun h => HN.out (h2.1 h)
  have hx2b : (x2 != 0) = true := by simpa using hx2
  have HB2 := Lib.hid (HB.out.trans (hb.mono HB.out.size))
  clear h2 hx2 hb
  go_wp2
  go_ret
  exact ⟨rfl, HB2.out⟩
set_option maxRecDepth 100000 in
set_option maxHeartbeats 3200000 in
theorem cutWay_in (n : Nat) (A : Option Addr) (len cap : Nat) (E : Ev) (A2 : Option Addr) (m cap2 : Nat) (c : Nat → Int) (w : World) (hlc : len ≤ cap) (hlen : len ≤ maxLen) (hm : m ≤ maxLen) (hr : Rd w w.heap.size A (len * 3) (evF E)) (hr2 : Rd w w.heap.size A2 m (numV c))
    (hg : runCode n E len = 0) (hok : CutOk n E len c m) :
    Calls Try.prog 4 #[.int .i64 (n : Nat), .slice A len cap, .slice A2 m cap2] w fun e w' => e = .returned (.bool true) ∧ Below w.heap.size w w' := by
  have HR := Lib.hid hr; clear hr
  have HR2 := Lib.hid hr2; clear hr2
  have HLEN := Lib.hid hlen; clear hlen
  have HLC := Lib.hid hlc; clear hlc
  have HMM := Lib.hid hm; clear hm
  have HG := Lib.hid hg
  have HOK := Lib.hid hok
  obtain ⟨h1n, h6, h30⟩ := (runCode_ok hg).1
  have HLF := Lib.hid (way_all hg (Nat.le_refl len)).2
  have HWA : Hid (WholeC E (allC E len) len) := Lib.hid fun i hi _ a ha => inC_all hg (by have := hb_below ha; omega)
  have HAO := Lib.hid (all_ok hg)
  obtain ⟨iI, hiI, hzI0, hzI1, hzI2⟩ := info_parts infoIV
  clear hg hok
  go_enter Try.func4, Try.ntmps4
  go_wp2_with fail
  refine (way_any n A len cap w.heap.size E A2 m cap2 c w HLEN.out HMM.out (Nat.le_refl _) HR.out HR2.out).mono ?_
  rintro e w1 ⟨v, rfl, A', cp, l, x1, rfl, ⟨h1, h2, h3⟩, hL⟩
  have hri : RiseI E len l := by
    by_cases hx : x1 = 0
    · rw [h3 hx]; exact RiseI.way HG.out
    · rw [h1 hx]; exact RiseI.nil E len
  have hll : l.length ≤ 60 := by
    by_cases hx : x1 = 0
    · rw [h3 hx, srtN_len]; have := wayL_len E c len; omega
    · rw [h1 hx]; simp
  have HRI := Lib.hid hri
  have HL1 := Lib.hid hL
  have HX1 : Hid (x1 = 0 ↔ WholeC E c len) := Lib.hid (h2.trans ⟨fun ⟨_, _, _, _, h⟩ => h, fun h => ⟨n, rfl, HG.out, HOK.out, h⟩⟩)
  clear h1 h2 h3 hL hri
  go_wp2_with fail
  refine (is_any n A len cap w.heap.size E A2 m cap2 c w1 HLEN.out HMM.out HL1.out.size (HR.out.below HL1.out.bel) (HR2.out.below HL1.out.bel)).mono ?_
  rintro e w2 ⟨v, rfl, b, x2, rfl, ⟨-, h2, h3⟩, hb⟩
  obtain rfl : x2 = 0 := h2.2 ⟨n, rfl, HG.out, HOK.out⟩
  have hbx : (x1 == 0) = b := by
    rw [Bool.eq_iff_iff, beq_iff_eq, HX1.out, (h3 rfl)]
  have HL2 := Lib.hid (HL1.out.keep hb)
  clear h2 h3 hb HL1 HX1
  have hgo : ∀ y : Bool, (runCode n E len == 0) = y → y = true := fun y hy => by rw [← hy, HG.out]; rfl
  go_wp2_with (first | (go_at_call 6; refine (ran_any n A len cap w.heap.size E w2 HLC.out HLEN.out HL2.out.size (HR.out.below HL2.out.bel)).mono ?_; rintro e w3 ⟨rfl, hb3⟩; rw [HG.out]; have HL3 := Lib.hid (HL2.out.keep hb3); clear hb3 HL2) | fail)
  go_loopw [56] (fun i wr => ∃ k : Nat, k ≤ l.length ∧ i = .int .i64 (k : Nat) ∧ Hid (Lay w wr [uRow A' l.length cp (lf l)])) (fun i _ => l.length - (intOf i).toNat)
  case atStart => exact ⟨0, by omega, rfl, HL3⟩
  case round =>
    clear HL3
    obtain ⟨k, hk, rfl, HL⟩ := hrel
    by_cases hlt : k < l.length
    · obtain ⟨g, rfl, -⟩ := (HL.out.own 0 _ rfl).pos (by show 0 < l.length; omega)
      have ck := HL.out.cell1 0 rfl (j := k) hlt
      have HSN := Lib.hid (HRI.out.snt k hlt)
      have HUP : Hid (0 < k → lf l (k - 1) < lf l k) := Lib.hid fun h => by have := HRI.out.up (k - 1) (by omega); rwa [show k - 1 + 1 = k by omega] at this
      obtain ⟨x, hx⟩ : ∃ x, x = lf l k := ⟨_, rfl⟩
      rw [← hx] at ck HSN HUP
      clear hx
      go_wp2
      clear ck
      go_loopw [13, 63] (fun z i wr => ∃ t : Nat, t ≤ len ∧ i = .int .i64 (t : Nat) ∧ z = .bool (sentB E x t) ∧ Hid (Lay w wr [uRow (some ⟨g, 0, none⟩) l.length cp (lf l)])) (fun _ i _ => len - (intOf i).toNat)
      case atStart => exact ⟨0, by omega, rfl, rfl, HL⟩
      case round =>
        clear HL
        obtain ⟨t, ht, rfl, rfl, HL⟩ := hrel
        by_cases htl : t < len
        · obtain ⟨ad, rfl, hbl, m0, m1, m2⟩ := (HR.out.below HL.out.bel).rec3 htl
          have hsz := HL.out.size
          have hbl2 : (ad.add (t * 3)).block < wr.heap.size := by rw [addr_block]; omega
          have hst : sentB E x (t + 1) = (sentB E x t || (E.k t == 2 && E.m t == (x : Int))) := rfl
          generalize E.k t = y1 at *
          generalize E.m t = y2 at *
          obtain ⟨e1, h1⟩ : ∃ b, (y1 == 2) = b := ⟨_, rfl⟩
          obtain ⟨e2, h2⟩ : ∃ b, (y2 == (x : Int)) = b := ⟨_, rfl⟩
          rw [h1, h2] at hst
          cases hz : sentB E x t
          · rw [hz] at hst
            cases e1 <;> cases e2
            all_goals
              go_wp2
              go_roundw
              case rel => exact ⟨t + 1, by omega, by go_num, by rw [hst]; rfl, HL.out.alloc _⟩
              case measure => simp [intOf]; omega
          · rw [hz] at hst
            go_wp2
            go_roundw
            case rel => exact ⟨t + 1, by omega, by go_num, by rw [hst]; rfl, HL.out.alloc _⟩
            case measure => simp [intOf]; omega
        · obtain rfl : len = t := by omega
          rw [HSN.out]
          by_cases hk0 : 0 < k
          · obtain ⟨k1, rfl⟩ : ∃ k1, k = k1 + 1 := ⟨k - 1, by omega⟩
            have hup := HUP.out hk0
            rw [Nat.add_sub_cancel] at hup
            have cp1 := HL.out.cell1 0 rfl (j := k1) (by omega)
            generalize lf l k1 = x1' at cp1 hup
            go_wp2
            go_roundw
            case rel => exact ⟨k1 + 1 + 1, by omega, by go_num, HL⟩
            case measure => simp [intOf]; omega
          · obtain rfl : k = 0 := by omega
            clear HUP
            go_wp2
            go_roundw
            case rel => exact ⟨0 + 1, by omega, by go_num, HL⟩
            case measure => simp [intOf]; omega
    · obtain rfl : k = l.length := by omega
      go_wp2_with (first
        | (at_make; refine wpList_mk1 rfl (.tmp 96) (.tmp 96) _ rfl 3 iI _ 8 Try.underlying23 hiI hzI0 hzI1 hzI2 rfl .i64 .i64 n rfl rfl (by omega) (by unfold maxLen; omega) w.heap.size _ rfl HL.out.size ?_
           intro w4 ho2 he2
           have HL4 : Hid (Lay w w4 [cRow wr.heap.size n E 0]) := Lib.hid (by rw [he2]; exact (HL.out.make (.int .i64 0) rfl n (by unfold maxLen; omega) 3 (fun q => .int .i64 (cntP E q 0 : Nat)) (fun q _ => rfl) _ rfl).perm [0] (by decide) rfl)
           clear ho2 he2
           generalize wr.heap.size = ga at HL4 ⊢)
        | fail)
      clear HL
      go_loopw [17, 100] (fun z i wr => ∃ t : Nat, t ≤ len ∧ i = .int .i64 (t : Nat) ∧ z = .int .i64 (leftE E t) ∧ -(t : Int) ≤ leftE E t ∧ leftE E t ≤ t ∧ Hid (Lay w wr [cRow ga n E t])) (fun _ i _ => len - (intOf i).toNat)
      case atStart => exact ⟨0, by omega, rfl, rfl, Int.le_refl _, Int.le_refl _, HL4⟩
      case round =>
        clear HL4
        obtain ⟨t, ht, rfl, rfl, hl0, hl1, HL⟩ := hrel
        by_cases htl : t < len
        · obtain ⟨ad, rfl, hbl, m0, m1, m2⟩ := (HR.out.below HL.out.bel).rec3 htl
          have hsz := HL.out.size
          have hbl2 : (ad.add (t * 3)).block < wr.heap.size := by rw [addr_block]; omega
          obtain ⟨q, hq, hqn⟩ := ev_proc HG.out htl
          have hkind := ev_kind HG.out htl
          have hlf : leftE E (t + 1) = leftE E t + (if E.k t = 2 then 1 else if E.k t = 3 then -1 else 0) := rfl
          have hcq := HL.out.cell1 0 rfl (j := q) hqn
          have hzq := HL.out.frz 0 rfl (by omega) q
          have hga := (HL.out.at_ 0 rfl).2
          have hct := cntP_le E q t
          have HNX : Hid (∀ W, Lay w W [cRow ga n E t] → Lay w (W.setCell ⟨ga, q, none⟩ (.int .i64 ((cntP E q t : Int) + 1))) [cRow ga n E (t + 1)]) := Lib.hid fun W hW => by
            have h1 := hW.set 0 (fun y => .int .i64 (cntP E y (t + 1) : Nat)) rfl (j := q) (u := .int .i64 ((cntP E q t : Int) + 1)) (by omega) (by
              show Value.int .i64 ((cntP E q t + (if E.p t = (q : Int) then 1 else 0) : Nat) : Int) = _
              rw [if_pos hq]; rfl) (fun y _ hy => by
              show Value.int .i64 ((cntP E y t + (if E.p t = (y : Int) then 1 else 0) : Nat) : Int) = .int .i64 (cntP E y t : Nat)
              rw [if_neg (fun e => hy (by omega))]; rfl)
            exact h1
          rw [hq] at m0
          generalize cntP E q t = ct at hcq hct HNX
          have HKK := Lib.hid hkind
          generalize E.k t = kk at m1 hlf HKK
          have HLF2 := Lib.hid hlf
          have HA := Lib.hid (HL.out.alloc (.cells #[.int .i64 (q : Nat), .int .i64 kk, .int .i64 (E.m t)] 32))
          clear hlf hkind hq
          rcases HKK.out with rfl | rfl | rfl
          all_goals
            go_wp2
            refine wp_text 10 (by kernel_rfl) (by kernel_rfl) (by kernel_rfl) (by repeat' (first | (with_reducible apply tame_then) | (with_reducible apply tame_block) | (with_reducible apply tame_scope) | exact tame_gives | exact tame_body (fun _ _ h => ⟨_, h.1⟩))) ?_
            simp only [List.take_succ_cons, List.take_zero, List.drop_succ_cons, List.drop_zero]
            go_wp2
            refine headed ?_
            go_wp2
            go_roundw
            case rel => exact ⟨t + 1, by omega, by go_num, by rw [HLF2.out]; first | (simp; done) | (simp; omega), by rw [HLF2.out]; simp; omega, by rw [HLF2.out]; simp; omega, Lib.hid (by first | exact ((HNX.out _ HL.out).alloc _).drew | exact (HNX.out _ HA.out).drew | exact HNX.out _ HA.out.drew | exact HNX.out _ HA.out | (refine (HNX.out _ HA.out).sim ⟨rfl, rfl, rfl, rfl⟩))⟩
            case measure => simp [intOf]; omega
        · obtain rfl : len = t := by omega
          go_wp2_with fail
          refine (way_any n A len cap wr.heap.size E (some ⟨ga, 0, none⟩) n n (allC E len) wr HLEN.out (by unfold maxLen; omega) (Nat.le_refl _) ((HR.out.below HL.out.bel).more HL.out.size) (HL.out.rd1 0 rfl)).mono ?_
          rintro e w6 ⟨v, rfl, A9, cp9, l9, x9, rfl, ⟨-, h2, h3⟩, hL⟩
          obtain rfl : x9 = 0 := h2.2 ⟨n, rfl, HG.out, HAO.out, HWA.out⟩
          have hl9 : (l9.length : Int) = leftE E len := by rw [h3 rfl, srtN_len]; exact HLF.out
          have HB6 := Lib.hid (HL.out.bel.trans (hL.bel.mono HL.out.size))
          have hl9b : ((l9.length : Int) == leftE E len) = true := by rw [hl9]; simp
          clear h2 h3 hL hl9 HL
          go_wp2
          go_ret
          exact ⟨by first | rfl | exact ret_bool hl9b, HB6.out⟩
theorem cutWay_all (n : Int) (A : Option Addr) (len cap : Nat) (E : Ev) (A2 : Option Addr) (m cap2 : Nat) (c : Nat → Int) (w : World)
    (_ : (Lit.int .i64 n).wf = true) (hmc : len ≤ cap ∧ cap ≤ maxLen) (hr : Rd w w.heap.size A (len * 3) (evF E))
    (hm1 : m ≤ cap2 ∧ cap2 ≤ maxLen) (_ : ∀ j, j < m → (Lit.int .i64 (c j)).wf = true) (hr1 : Rd w w.heap.size A2 m (numV c)) :
    Calls Try.prog 4 #[.int .i64 n, .slice A len cap, .slice A2 m cap2] w fun e w' => e = .returned (.bool true) ∧ Below w.heap.size w w' := by
  by_cases h : ∃ k : Nat, n = k ∧ runCode n E len = 0 ∧ CutOk k E len c m
  · obtain ⟨k, rfl, hg, ha⟩ := h
    exact cutWay_in k A len cap E A2 m cap2 c w hmc.1 (by omega) (by omega) hr hr1 hg ha
  · exact cutWay_out n A len cap E A2 m cap2 c w (by omega) (by omega) hr hr1 h
end Go.Proofs.Ythonnpimfidkdaa
