/- The law EchoAll, walked. -/
import Derived.Test.YtcmbbioipbdonaaEcLaw
import Derived.Test.YtcmbbioipbdonaaApZ
set_option linter.unusedVariables false
set_option linter.unusedSimpArgs false
namespace Go.Proofs.Ytcmbbioipbdonaa
open Go.RowKit

/-- How much was taken. -/
structure Got (s : ES) (k : Nat) : Prop where
  le : s.way.length + k ≤ s.sent
theorem take_len (f t : Nat) (s : ES) : (takeS f t s).way.length + s.sent = s.way.length + (takeS f t s).sent := by
  rw [takeS_eq]
  show (s.way ++ List.map _ _).length + s.sent = s.way.length + (s.sent + _)
  rw [List.length_append, List.length_map]; omega
theorem step_len (k : Int) (s : ES) : (stepS k s).2.way.length + s.sent ≤ s.way.length + (stepS k s).2.sent ∧ (k = 0 → s.way ≠ [] → (stepS k s).2.way.length + s.sent + 1 = s.way.length + (stepS k s).2.sent) ∧ (s.way = [] → (stepS k s).2 = s) := by
  unfold stepS
  split
  · rename_i h
    have h1 := take_len (s.way.getD k.toNat (0, 0)).1 (s.way.getD k.toNat (0, 0)).2 (pull k.toNat s)
    have h2 : (pull k.toNat s).way.length + 1 = s.way.length := by
      show (s.way.eraseIdx k.toNat).length + 1 = _
      rw [List.length_eraseIdx, if_pos h.2]; omega
    have h3 : (pull k.toNat s).sent = s.sent := rfl
    refine ⟨?_, fun _ _ => ?_, fun he => ?_⟩
    · show (takeS _ _ _).way.length + _ ≤ _ + (takeS _ _ _).sent
      omega
    · show (takeS _ _ _).way.length + _ + 1 = _ + (takeS _ _ _).sent
      omega
    · rw [he] at h; simp at h
  · rename_i h
    refine ⟨Nat.le_refl _, fun hk hne => ?_, fun _ => rfl⟩
    exfalso
    refine h ⟨by omega, ?_⟩
    rw [hk]
    exact List.length_pos_iff.2 hne
theorem zeros_end (s0 : ES) (o : Nat → Int) (mo : Nat) (hz : ∀ j, mo ≤ j → o j = 0) (hle : ∀ j, (ecE s0 o j).way.length ≤ (ecE s0 o j).sent) : ∀ k, (ecE s0 o (mo + k)).way = [] ∨ (ecE s0 o (mo + k)).way.length + k ≤ (ecE s0 o (mo + k)).sent
  | 0 => .inr (hle _)
  | k + 1 => by
    have hs := step_len (o (mo + k)) (ecE s0 o (mo + k))
    have he : ecE s0 o (mo + (k + 1)) = (stepS (o (mo + k)) (ecE s0 o (mo + k))).2 := rfl
    rw [he]
    by_cases hw : (ecE s0 o (mo + k)).way = []
    · rw [hs.2.2 hw]; exact .inl hw
    · right
      have := hs.2.1 (hz _ (by omega)) hw
      rcases zeros_end s0 o mo hz hle k with h | h
      · exact absurd h hw
      · omega
theorem way_le {n m st : Nat} {p q : Nat → Nat} (o : Nat → Int) : ∀ j, (ecE (ec1 p q m st) o j).way.length ≤ (ecE (ec1 p q m st) o j).sent
  | 0 => by
    show ([] ++ List.map _ _ : List (Nat × Nat)).length ≤ 0 + _
    rw [List.nil_append, List.length_map]; omega
  | j + 1 => by
    have hs := step_len (o j) (ecE (ec1 p q m st) o j)
    have := way_le (n := n) (m := m) (st := st) (p := p) (q := q) o j
    show (stepS _ _).2.way.length ≤ (stepS _ _).2.sent
    omega
/-- Behind as many zeros as there can be messages it is done. -/
theorem all_done {n m st mo : Nat} {p q : Nat → Nat} (hlk : LkP n m p q) (hst : st < n) (o : Nat → Int) (hz : ∀ j, mo ≤ j → o j = 0) : (ecE (ec1 p q m st) o (mo + 30)).wait st = 0 := by
  obtain ⟨rc, dep, hEI⟩ := EI.all hlk hst o (mo + 30)
  refine hEI.quiet ?_
  rcases zeros_end _ o mo hz (way_le (n := n) o) 30 with h | h
  · exact h
  · have h1 := hEI.few
    have h2 : sumN n (fun a => ((ecE (ec1 p q m st) o (mo + 30)).near a).length) = 2 * m := by
      have h3 : (ecE (ec1 p q m st) o (mo + 30)).near = nearS p q m := near_all o (ec1 p q m st) (mo + 30)
      rw [h3]
      have h4 := deg_sum (n := n) (m := m) (p := p) (q := q) hlk.at_ (fun _ => true) m (Nat.le_refl _)
      simp only [if_true] at h4
      rw [sumN_congr (g := fun a => (nearK p q m a).length) (fun a _ => nearS_len a), h4]
      have : ∀ m, sumN m (fun _ => 1 + 1) = 2 * m := fun m => by
        have a := sumN_le (g := fun _ => 1 + 1) (c := 2) (n := m) fun _ _ => Nat.le_refl _
        have b := sumN_ge (g := fun _ => 1 + 1) (c := 2) (n := m) fun _ _ => Nat.le_refl _
        omega
      exact this m
    have h15 := hlk.hm
    have : (ecE (ec1 p q m st) o (mo + 30)).way.length = 0 := by omega
    exact List.eq_nil_of_length_eq_zero this
def padO (o : Nat → Int) (mo : Nat) (j : Nat) : Int := if j < mo then o j else 0
set_option maxRecDepth 100000 in
set_option maxHeartbeats 1600000 in
theorem echoAll_good (n st : Nat) (A AO : Option Addr) (m cap mo co : Nat) (p q : Nat → Nat) (o : Nat → Int) (w : World) (hm : m ≤ cap ∧ cap ≤ maxLen) (hmo : mo ≤ 30) (hr : Rd w w.heap.size A (m * 2) (recF2 (fun i => (p i : Nat)) (fun i => (q i : Nat)))) (hro : Rd w w.heap.size AO mo (fun j => .int .i64 (o j))) (h1 : 1 ≤ n) (hst : st < n) (hlk : LkP n m p q) :
    Calls Try.prog 5 #[.int .i64 (n : Nat), .slice A m cap, .int .i64 (st : Nat), .slice AO mo co] w fun e w' => e = .returned (.bool true) ∧ Below w.heap.size w w' := by
  have HD := Lib.hid (all_done hlk hst (padO o mo) (mo := mo) fun j hj => by unfold padO; rw [if_neg (by omega)])
  have HOK := Lib.hid (lkOk_nat hlk h1 hst (show mo + 30 ≤ 60 by omega))
  have HK := Lib.hid hlk
  clear hlk
  have HRO := Lib.hid hro; clear hro
  have HR := Lib.hid hr; clear hr
  have HM := Lib.hid hm; clear hm
  obtain ⟨iI, hiI, hzI0, hzI1, hzI2⟩ := info_parts infoIntE
  have HL0 : Hid (Lay w (w.alloc (.cells #[] 3)) [⟨some ⟨w.heap.size, 0, none⟩, 3, 1, 0, 0, fun j => .int .i64 (padO o mo j)⟩]) := Lib.hid ((Lay.nil w).new #[] 3 1 0 _ w.heap.size rfl rfl (by unfold maxLen; omega) (fun j hj => by omega))
  have HP : Hid (∀ j, j < mo → (Value.int .i64 (padO o mo j)) = .int .i64 (o j)) := Lib.hid fun j hj => by unfold padO; rw [if_pos hj]
  have HZ : Hid (∀ j, j < 30 → (Value.int .i64 (padO o mo (mo + j))) = .int .i64 0) := Lib.hid fun j hj => by unfold padO; rw [if_neg (by omega)]
  go_enter Try.func5, Try.ntmps5
  go_wp2_with (first
    | (at_builtin; refine wpList_ap1 rfl (.tmp 15) (.tmp 16) _ rfl 3 iI _ 8 Try.underlying23 hiI hzI0 hzI1 hzI2 rfl w.heap.size rfl (HL0.out.own 0 _ rfl) rfl (HRO.out.below HL0.out.bel) (fun _ _ => rfl) (fun j => .int .i64 (padO o mo j)) (fun _ _ => rfl) (fun j hj => by rw [Nat.zero_add]; exact HP.out j hj) mo (by omega) (by unfold maxLen; omega) (by omega) (by simp) ?_
       intro A2 cap2 w4 ho hg ha
       have H4 := Lib.hid (HL0.out.app 0 rfl ho hg ha)
       clear ho hg ha HL0)
    | (at_builtin; refine wpList_apZ rfl (.tmp 17) _ 23 3 rfl 3 iI _ _ .i64 .i64 8 Try.underlying23 Try.underlying3 hiI hzI0 hzI1 hzI2 (by omega) rfl rfl 30 rfl rfl (H4.out.own 0 _ rfl) (by omega) (by omega) (by omega) (fun j => .int .i64 (padO o mo j)) (fun _ _ => rfl) HZ.out H4.out.size (mo + 30) rfl ?_
       intro A5 cap5 w5 ho hg ha
       have H5 := Lib.hid (H4.out.app 0 rfl ho hg ha)
       clear ho hg ha H4)
    | fail)
  refine (play_good n st A A5 m cap (mo + 30) cap5 w5.heap.size p q (padO o mo) _ HM.out (by omega) (Nat.le_refl _) ((HR.out.below H5.out.bel).more H5.out.size) (H5.out.rd1 0 rfl) h1 hst HK.out).mono ?_
  rintro e w6 ⟨v, rfl, AC, cC, gf, cf, rfl, hL6⟩
  rw [decide_eq_true HD.out]
  generalize (ecE (ec1 p q m st) (padO o mo) (mo + 30)).sent = sn
  have hb6 := H5.out.bel.trans (hL6.bel.mono H5.out.size)
  have HL := Lib.hid ((hL6.newB [.slice AC (mo + 30) cC, .slice (some ⟨gf, 0, none⟩) n cf, .bool true, .int .i64 (sn : Nat)] 26 4 rfl _ rfl).perm (L' := [blk w6.heap.size 26 4 (ofL [.slice AC (mo + 30) cC, .slice (some ⟨gf, 0, none⟩) n cf, .bool true, .int .i64 (sn : Nat)])]) [0] (by decide) rfl)
  have HB6 := Lib.hid (hb6.alloc hb6.size (.cells #[.slice AC (mo + 30) cC, .slice (some ⟨gf, 0, none⟩) n cf, .bool true, .int .i64 (sn : Nat)] 26))
  clear hL6 hb6
  go_wp2_with fail
  refine (linked_yes (n : Nat) (st : Nat) A m cap (mo + 30) _ _ _ HM.out ((HR.out.below HB6.out).more HB6.out.size) HOK.out).mono ?_
  rintro e w7 ⟨v, rfl, rfl, hb⟩
  have HX := Lib.hid (HL.out.keep hb)
  have HB7 := Lib.hid (HB6.out.trans (hb.mono HB6.out.size))
  clear hb HL HB6
  have c0 := HX.out.cellB 0 rfl 0 (by omega)
  have c2 := HX.out.cellB 0 rfl 2 (by omega)
  simp only [ofL_0, ofL_2] at c0 c2
  go_wp2
  go_ret
  exact ⟨by first | rfl | exact ret_bool (by simp), HB7.out⟩
set_option maxRecDepth 100000 in
set_option maxHeartbeats 1600000 in
theorem echoAll_bad (n st : Int) (A AO : Option Addr) (m cap mo co : Nat) (p q : Nat → Int) (o : Nat → Int) (w : World) (hm : m ≤ cap ∧ cap ≤ maxLen) (hmo : mo ≤ 30) (hr : Rd w w.heap.size A (m * 2) (recF2 p q)) (hro : Rd w w.heap.size AO mo (fun j => .int .i64 (o j))) (hno : ¬ LkOk n m p q st (mo + 30)) :
    Calls Try.prog 5 #[.int .i64 n, .slice A m cap, .int .i64 st, .slice AO mo co] w fun e w' => e = .returned (.bool true) ∧ Below w.heap.size w w' := by
  have HN := Lib.hid hno; clear hno
  have HRO := Lib.hid hro; clear hro
  have HR := Lib.hid hr; clear hr
  have HM := Lib.hid hm; clear hm
  obtain ⟨iI, hiI, hzI0, hzI1, hzI2⟩ := info_parts infoIntE
  have HL0 : Hid (Lay w (w.alloc (.cells #[] 3)) [⟨some ⟨w.heap.size, 0, none⟩, 3, 1, 0, 0, fun j => .int .i64 (padO o mo j)⟩]) := Lib.hid ((Lay.nil w).new #[] 3 1 0 _ w.heap.size rfl rfl (by unfold maxLen; omega) (fun j hj => by omega))
  have HP : Hid (∀ j, j < mo → (Value.int .i64 (padO o mo j)) = .int .i64 (o j)) := Lib.hid fun j hj => by unfold padO; rw [if_pos hj]
  have HZ : Hid (∀ j, j < 30 → (Value.int .i64 (padO o mo (mo + j))) = .int .i64 0) := Lib.hid fun j hj => by unfold padO; rw [if_neg (by omega)]
  go_enter Try.func5, Try.ntmps5
  go_wp2_with (first
    | (at_builtin; refine wpList_ap1 rfl (.tmp 15) (.tmp 16) _ rfl 3 iI _ 8 Try.underlying23 hiI hzI0 hzI1 hzI2 rfl w.heap.size rfl (HL0.out.own 0 _ rfl) rfl (HRO.out.below HL0.out.bel) (fun _ _ => rfl) (fun j => .int .i64 (padO o mo j)) (fun _ _ => rfl) (fun j hj => by rw [Nat.zero_add]; exact HP.out j hj) mo (by omega) (by unfold maxLen; omega) (by omega) (by simp) ?_
       intro A2 cap2 w4 ho hg ha
       have H4 := Lib.hid (HL0.out.app 0 rfl ho hg ha)
       clear ho hg ha HL0)
    | (at_builtin; refine wpList_apZ rfl (.tmp 17) _ 23 3 rfl 3 iI _ _ .i64 .i64 8 Try.underlying23 Try.underlying3 hiI hzI0 hzI1 hzI2 (by omega) rfl rfl 30 rfl rfl (H4.out.own 0 _ rfl) (by omega) (by omega) (by omega) (fun j => .int .i64 (padO o mo j)) (fun _ _ => rfl) HZ.out H4.out.size (mo + 30) rfl ?_
       intro A5 cap5 w5 ho hg ha
       have H5 := Lib.hid (H4.out.app 0 rfl ho hg ha)
       clear ho hg ha H4)
    | fail)
  refine (play_bad n st A A5 m cap (mo + 30) cap5 _ p q _ HM.out (by unfold maxLen; omega) H5.out.size (HR.out.below H5.out.bel) HN.out).mono ?_
  rintro e w6 ⟨v, rfl, ⟨c, rfl, hc⟩, hb⟩
  have hb6 := H5.out.bel.trans (hb.mono H5.out.size)
  have HB := Lib.hid (hb6.alloc hb6.size (.cells #[.slice none 0 0, .slice none 0 0, .bool false, .int .i64 0] 26))
  clear hb hb6
  go_wp2_with fail
  refine (linked_no n st A m cap (mo + 30) _ _ _ HM.out (by unfold maxLen; omega) ((HR.out.below HB.out).more HB.out.size) HN.out).mono ?_
  rintro e w7 ⟨v, rfl, rfl, hb⟩
  have HX := Lib.hid (HB.out.trans (hb.mono HB.out.size))
  clear hb
  go_wp2
  go_ret
  exact ⟨ret_bool (show (c != 0) = true by rw [bne, hc]; rfl), HX.out⟩
theorem echoAll_all (n : Int) (A : Option Addr) (m cap : Nat) (p q : Nat → Int) (st : Int) (AO : Option Addr) (mo co : Nat) (o : Nat → Int) (w : World) (_ : (Lit.int .i64 n).wf = true) (hm : m ≤ cap ∧ cap ≤ maxLen) (hr : Rd w w.heap.size A (m * 2) (recF2 p q)) (_ : (Lit.int .i64 st).wf = true) (hmo : mo ≤ co ∧ co ≤ maxLen) (_ : ∀ j, j < mo → (Lit.int .i64 (o j)).wf = true) (hro : Rd w w.heap.size AO mo (fun j => .int .i64 (o j))) :
    Calls Try.prog 5 #[.int .i64 n, .slice A m cap, .int .i64 st, .slice AO mo co] w fun e w' => e = .returned (.bool true) ∧ Below w.heap.size w w' := by
  by_cases h30 : mo ≤ 30
  · by_cases h : LkOk n m p q st (mo + 30)
    · obtain ⟨n', st', p', q', rfl, rfl, h1, h2, h3, h4, h5⟩ := lk_nat h
      exact echoAll_good n' st' A AO m cap mo co p' q' o w hm h30 (rd_nat hr h2) hro h3 h4 h1
    · exact echoAll_bad n st A AO m cap mo co p q o w hm h30 hr hro h
  · have hm2 : mo ≤ 9223372036854775807 := by have := hmo.2; unfold maxLen at this; omega
    go_enter Try.func5, Try.ntmps5
    go_wp2
    go_ret
    exact ⟨rfl, Below.refl _ _⟩
end Go.Proofs.Ytcmbbioipbdonaa
