/- The walks of elect's moves. -/
import Derived.Test.YtfhmabpalimcnaaEl1
set_option linter.unusedVariables false
set_option linter.unusedSimpArgs false
namespace Go.Proofs.Ytfhmabpalimcnaa
open Go.RowKit

theorem infoOne : (Try.prog.info? 60).map (fun i => (i.zero, i.size, i.bytes)) = some (some (.agg #[.int .i64 0, .int .i64 0, .int .i64 0, .int .u32 0]), 4, 32) := by kernel_rfl
def ESz : ES := ⟨fun _ => 0, fun _ => 0, fun _ => 0, fun _ => 0, []⟩
theorem oneF_zero (j : Nat) : oneF ESz j = (Value.agg #[.int .i64 0, .int .i64 0, .int .i64 0, .int .u32 0]).cells[j % 4]! := by
  rcases (by omega : j % 4 = 0 ∨ j % 4 = 1 ∨ j % 4 = 2 ∨ j % 4 = 3) with h | h | h | h <;> simp only [oneF, h] <;> rfl
/-- Behind q rounds. -/
def ESq (q : Nat) : ES := ⟨fun _ => 0, fun _ => 0, fun i => if i < q then -1 else 0, fun _ => 0, []⟩
theorem ESq_succ (q : Nat) : ESq (q + 1) = { ESq q with V := upd (ESq q).V q (-1) } := by
  have : (fun i => if i < q + 1 then (-1 : Int) else 0) = upd (fun i => if i < q then -1 else 0) q (-1) := by
    funext i
    rw [upd_apply]
    by_cases h : i = q
    · subst h; simp
    · by_cases h2 : i < q
      · simp [h, h2, Nat.lt_succ_of_lt h2]
      · simp [h, h2, show ¬ i < q + 1 by omega]
  show ES.mk _ _ _ _ _ = ES.mk _ _ _ _ _
  rw [this]
  rfl
theorem ESq_all {n i : Nat} (hi : i < n) : (ESq n).V i = -1 := if_pos hi

section
variable (g gl n : Nat) (s : ES) (A : Option Addr) (cap : Nat) (R : List LRow) (w0 w : World)
set_option maxRecDepth 100000 in
set_option maxHeartbeats 1000000 in
theorem new_any (hn1 : 1 ≤ n) (hn : n ≤ 6) (h : Lay w0 w R) :
    Calls Try.prog 13 #[.int .i64 n] w (Gives fun v w' => ∃ g gl, v = .pointer (some ⟨g, 0, none⟩) ∧ Lay w0 w' (rowsE g gl n (ESq n) none 0 R)) := by
  have H := Lib.hid h; clear h
  obtain ⟨iO, hiO, hzO0, hzO1, hzO2⟩ := info_parts infoOne
  go_enter Try.func13, Try.ntmps13
  go_wp2_with (at_make; refine wpList_mkN rfl (.tmp 5) (.tmp 5) _ rfl 60 iO _ 4 32 Try.underlying54 hiO hzO0 hzO1 hzO2 .i64 .i64 n rfl rfl (by omega) (by unfold maxLen; omega) ?_; intro w2 he2
               have HL2 : Hid (Lay w0 w2 (oneR w.heap.size n (ESq 0) :: ledR none 0 [] :: R)) := by
                 rw [he2]
                 exact ((H.out.lnil 73 2 (ledF [])).makeN _ n 4 (by unfold maxLen; omega) _ (oneF ESz) rfl (fun j _ => oneF_zero j) _ rfl)
               clear he2)
  have HL3 := Lib.hid (HL2.out.newB [.slice (some ⟨w.heap.size, 0, none⟩) n n, .slice none 0 0] 57 2 rfl _ rfl)
  clear HL2 H
  generalize w2.heap.size = g at HL3 ⊢
  generalize w.heap.size = gl at HL3 ⊢
  go_loopw [14] (fun i wr => ∃ q : Nat, q ≤ n ∧ i = .int .i64 q ∧ Hid (Lay w0 wr (rowsE g gl n (ESq q) none 0 R))) (fun i _ => n - (intOf i).toNat)
  case atStart => exact ⟨0, by omega, rfl, HL3⟩
  case round =>
    clear HL3
    obtain ⟨q, hq, rfl, HQ⟩ := hrel
    obtain ⟨c0, c1⟩ := el_heads HQ.out
    have ng := HQ.out.ne_ 0 1 rfl rfl (by omega)
    by_cases hlt : q < n
    · obtain ⟨rr0, rr1, rr2, rr3⟩ := el_cells HQ.out (i := q) hlt
      have fr0 := HQ.out.frz 1 rfl (by omega) (q * 4)
      have fr1 := HQ.out.frz 1 rfl (by omega) (q * 4 + 1)
      have fr2 := HQ.out.frz 1 rfl (by omega) (q * 4 + 2)
      have fr3 := HQ.out.frz 1 rfl (by omega) (q * 4 + 3)
      go_wp2
      go_roundw
      case rel => exact ⟨q + 1, by omega, by go_num, by rw [ESq_succ]; exact el_V (-1) HQ.out hlt⟩
      case measure => simp [intOf]; omega
    · obtain rfl : q = n := by omega
      go_wp2
      go_ret
      exact ⟨_, rfl, g, gl, rfl, HQ.out⟩
set_option maxRecDepth 100000 in
set_option maxHeartbeats 1000000 in
theorem stand_any (i : Nat) (hi : i < n) (hn : n ≤ 6) (hT : s.T i ≤ 100) (hl : s.led.length ≤ 200) (h : Lay w0 w (rowsE g gl n s A cap R)) :
    Calls Try.prog 25 #[.pointer (some ⟨g, 0, none⟩), .int .i64 i] w fun e w' => e = .returned (.int .i64 (standS n i s).1) ∧ ∃ A' cap', Lay w0 w' (rowsE g gl n (standS n i s).2 A' cap' R) := by
  have H := Lib.hid h; clear h
  obtain ⟨c0, c1⟩ := el_heads H.out
  have ng := H.out.ne_ 0 1 rfl rfl (by omega)
  obtain ⟨rr0, rr1, rr2, rr3⟩ := el_cells H.out (i := i) hi
  have fr0 := H.out.frz 1 rfl (by omega) (i * 4)
  have fr1 := H.out.frz 1 rfl (by omega) (i * 4 + 1)
  have fr2 := H.out.frz 1 rfl (by omega) (i * 4 + 2)
  have fr3 := H.out.frz 1 rfl (by omega) (i * 4 + 3)
  unfold standS
  by_cases hR : s.R i = 2
  · rw [if_pos hR]
    rw [hR] at rr1
    clear hR
    go_enter Try.func25, Try.ntmps25
    go_wp2
    go_ret
    exact ⟨rfl, A, cap, H.out⟩
  · rw [if_neg hR]
    have e1 : (s.R i == 2) = false := by simpa using hR
    clear hR
    have H1 := Lib.hid (el_one (t := s.T i + 1) (r := 1) (v := i) H.out hi)
    go_enter Try.func25, Try.ntmps25
    go_wp2
    refine wp_held_mask (fun W => W.cell? ⟨g, 0, none⟩ = some (.slice (some ⟨gl, 0, none⟩) n n) ∧ W.cell? ⟨gl, i * 4, none⟩ = some (.int .i64 (s.T i : Nat))) [true, true, true, true, true, true, true, true, true, true, true, true, true, true, true, false, false, false] ?A1 (by kernel_rfl) rfl (by kernel_rfl) (by repeat' (first | (with_reducible apply tame_then) | (with_reducible apply tame_block) | (with_reducible apply tame_scope) | exact tame_gives | exact tame_body (fun _ _ h => ⟨_, h.1⟩))) ⟨c0, rr0⟩ ?head ?tail
    case head =>
      intro W5 ⟨s0, s1⟩
      simp only [pick]
      go_wp2
      exact taken
    case tail =>
      simp only [pick, List.map_cons, List.map_nil, Bool.not_true, Bool.not_false]
      refine tail_step ?_
      go_wp2
      refine holds ⟨c0, rr0⟩ ?_
      refine tail_step ?_
      go_wp2
      refine holds ⟨c0, rr0⟩ ?_
      refine tail_last ?_
      go_wp2_with fail
      have e5 : ((s.T i : Nat) : Int) + 1 = ((s.T i + 1 : Nat) : Int) := rfl
      rw [e5]
      clear e5
      refine (count_any g gl n (setE i (s.T i + 1) 1 i s) A cap R w0 _ i i hi hi hn (by show upd s.H i 0 i < _; rw [upd_same]; exact Nat.two_pow_pos n) hl (by exact H1.out.sim ⟨rfl, rfl, rfl, rfl⟩)).mono ?_
      rintro e w3 ⟨rfl, A3, c3, h3⟩
      have H3 := Lib.hid h3; clear h3
      go_wp2
      go_ret
      exact ⟨rfl, A3, c3, H3.out⟩
set_option maxRecDepth 100000 in
set_option maxHeartbeats 1000000 in
theorem vote_any (i t : Nat) (good : Bool) (hi : i < n) (ht : t < n) (hit : i ≠ t) (hn : n ≤ 6) (hB : EI n 100 s) (h : Lay w0 w (rowsE g gl n s A cap R)) :
    Calls Try.prog 27 #[.pointer (some ⟨g, 0, none⟩), .int .i64 i, .int .i64 t, .bool good] w fun e w' => e = .returned (.int .i64 (voteS n i t good s).1) ∧ ∃ A' cap', Lay w0 w' (rowsE g gl n (voteS n i t good s).2 A' cap' R) := by
  have H := Lib.hid h; clear h
  have HBK := Lib.hid (hB.know i (hB.T t))
  obtain ⟨r, hr⟩ : ∃ r, r = voteS n i t good s := ⟨_, rfl⟩
  rw [← hr]
  unfold voteS at hr
  have HR := Lib.hid hr
  clear hr hB
  obtain ⟨c0, c1⟩ := el_heads H.out
  have ng := H.out.ne_ 0 1 rfl rfl (by omega)
  obtain ⟨rr0, rr1, rr2, rr3⟩ := el_cells H.out (i := t) ht
  have fr0 := H.out.frz 1 rfl (by omega) (t * 4)
  have fr1 := H.out.frz 1 rfl (by omega) (t * 4 + 1)
  have fr2 := H.out.frz 1 rfl (by omega) (t * 4 + 2)
  have fr3 := H.out.frz 1 rfl (by omega) (t * 4 + 3)
  by_cases hR : s.R t = 1
  case neg =>
    have HRQ := Lib.hid (HR.out.trans (if_pos hR))
    have e1 : (s.R t != 1) = true := by simpa using hR
    clear hR HR
    go_enter Try.func27, Try.ntmps27
    go_wp2
    go_ret
    have e9 := HRQ.out
    subst e9
    exact ⟨rfl, A, cap, H.out⟩
  have HR1 := Lib.hid (HR.out.trans (if_neg (by simpa using hR)))
  rw [hR] at rr1
  clear HR
  go_enter Try.func27, Try.ntmps27
  go_wp2_with fail
  refine (know_any g gl n s A cap R w0 _ i (s.T t) hi H.out).mono ?_
  rintro e w1 ⟨rfl, hk⟩
  clear c0 c1 ng rr0 rr1 rr2 rr3 fr0 fr1 fr2 fr3
  obtain ⟨k, hk0⟩ : ∃ k, knowS i (s.T t) s = k := ⟨_, rfl⟩
  have hRk : k.R t = 1 := by
    rw [← hk0]
    unfold knowS
    split
    · show upd s.R i 0 t = 1
      rw [upd_ne _ _ (Ne.symm hit)]; exact hR
    · exact hR
  rw [hk0] at hk
  have hr := HR1.out
  rw [hk0] at hr
  have HR2 := Lib.hid hr
  have hb := HBK.out
  rw [hk0] at hb
  have HB := Lib.hid hb
  have HK := Lib.hid hk
  have hTi := hb.T i
  have hTt := hb.T t
  clear hr hb hk hk0 HR1 HBK H hR
  obtain ⟨c0, c1⟩ := el_heads HK.out
  have ng := HK.out.ne_ 0 1 rfl rfl (by omega)
  obtain ⟨rr0, rr1, rr2, rr3⟩ := el_cells HK.out (i := t) ht
  have fr0 := HK.out.frz 1 rfl (by omega) (t * 4)
  have fr1 := HK.out.frz 1 rfl (by omega) (t * 4 + 1)
  have fr2 := HK.out.frz 1 rfl (by omega) (t * 4 + 2)
  have fr3 := HK.out.frz 1 rfl (by omega) (t * 4 + 3)
  obtain ⟨rp0, rp1, rp2, rp3⟩ := el_cells HK.out (i := i) hi
  have fp0 := HK.out.frz 1 rfl (by omega) (i * 4)
  have fp1 := HK.out.frz 1 rfl (by omega) (i * 4 + 1)
  have fp2 := HK.out.frz 1 rfl (by omega) (i * 4 + 2)
  have fp3 := HK.out.frz 1 rfl (by omega) (i * 4 + 3)
  by_cases hlt : k.T t < k.T i
  · have HR3 := Lib.hid (HR2.out.trans (if_pos hlt))
    clear HR2
    go_wp2
    refine wp_text_all (by kernel_rfl) (by kernel_rfl) (by kernel_rfl) (by repeat' (first | (with_reducible apply tame_then) | (with_reducible apply tame_block) | (with_reducible apply tame_scope) | exact tame_gives | exact tame_body (fun _ _ h => ⟨_, h.1⟩))) ?_
    go_wp2
    refine headed ?_
    go_wp2_with fail
    refine (know_any g gl n k A cap R w0 _ t (k.T i) ht HK.out.drew).mono ?_
    rintro e w2 ⟨rfl, hk⟩
    have HK2 := Lib.hid hk
    clear hk
    go_wp2
    go_ret
    have e9 := HR3.out
    subst e9
    exact ⟨rfl, A, cap, HK2.out⟩
  have HR3 := Lib.hid (HR2.out.trans (if_neg hlt))
  clear HR2
  by_cases hhold : (0 ≤ k.V i ∧ k.V i ≠ t) ∨ good = false
  · have HR4 := Lib.hid (HR3.out.trans (if_pos hhold))
    clear HR3
    rcases hhold with ⟨h1, h2⟩ | rfl
    · have e2 : (k.V i != (t : Int)) = true := by simpa using h2
      clear h2
      go_wp2
      refine wp_text_all (by kernel_rfl) (by kernel_rfl) (by kernel_rfl) (by repeat' (first | (with_reducible apply tame_then) | (with_reducible apply tame_block) | (with_reducible apply tame_scope) | exact tame_gives | exact tame_body (fun _ _ h => ⟨_, h.1⟩))) ?_
      go_wp2
      refine headed ?_
      go_wp2
      go_ret
      have e9 := HR4.out
      subst e9
      exact ⟨rfl, A, cap, HK.out.drew⟩
    · by_cases h1 : 0 ≤ k.V i
      all_goals
        go_wp2
        refine wp_text_all (by kernel_rfl) (by kernel_rfl) (by kernel_rfl) (by repeat' (first | (with_reducible apply tame_then) | (with_reducible apply tame_block) | (with_reducible apply tame_scope) | exact tame_gives | exact tame_body (fun _ _ h => ⟨_, h.1⟩))) ?_
        go_wp2
        refine headed ?_
        go_wp2
        all_goals
          go_ret
          have e9 := HR4.out
          subst e9
          exact ⟨rfl, A, cap, HK.out.drew⟩
  · have HR4 := Lib.hid (HR3.out.trans (if_neg hhold))
    clear HR3
    have hgood : good = true := by
      cases good
      · exact absurd (.inr rfl) hhold
      · rfl
    subst hgood
    have hV : k.V i < 0 ∨ k.V i = t := by
      by_cases h1 : 0 ≤ k.V i
      · by_cases h2 : k.V i = t
        · exact .inr h2
        · exact absurd (.inl ⟨h1, h2⟩) hhold
      · exact .inl (by omega)
    clear hhold
    have H1 := Lib.hid (el_V (t : Int) HK.out.drew hi)
    have hBt : k.H t < 2 ^ n := HB.out.H t
    have hBl : k.led.length ≤ 200 := by have := HB.out.led; omega
    rcases hV with hV | hV
    all_goals
      (try rw [hV] at rp2)
      go_wp2
      refine wp_text_all (by kernel_rfl) (by kernel_rfl) (by kernel_rfl) (by repeat' (first | (with_reducible apply tame_then) | (with_reducible apply tame_block) | (with_reducible apply tame_scope) | exact tame_gives | exact tame_body (fun _ _ h => ⟨_, h.1⟩))) ?_
      go_wp2
      refine headed ?_
      go_wp2_with fail
      refine (count_any g gl n { k with V := upd k.V i t } A cap R w0 _ t i ht hi hn hBt hBl (by exact H1.out.sim ⟨rfl, rfl, rfl, rfl⟩)).mono ?_
      rintro e w3 ⟨rfl, A3, c3, h3⟩
      have H3 := Lib.hid h3; clear h3
      go_wp2
      go_ret
      have e9 := HR4.out
      subst e9
      exact ⟨rfl, A3, c3, H3.out⟩
set_option maxRecDepth 100000 in
set_option maxHeartbeats 1000000 in
theorem beat_any (i t : Nat) (hi : i < n) (ht : t < n) (hB : EI n 100 s) (h : Lay w0 w (rowsE g gl n s A cap R)) :
    Calls Try.prog 29 #[.pointer (some ⟨g, 0, none⟩), .int .i64 i, .int .i64 t] w fun e w' => e = .returned (.int .i64 (beatS i t s).1) ∧ Lay w0 w' (rowsE g gl n (beatS i t s).2 A cap R) := by
  have H := Lib.hid h; clear h
  obtain ⟨r, hr⟩ : ∃ r, r = beatS i t s := ⟨_, rfl⟩
  rw [← hr]
  unfold beatS at hr
  have HR := Lib.hid hr
  clear hr
  have hTi := hB.T i
  have hTt := hB.T t
  clear hB
  obtain ⟨c0, c1⟩ := el_heads H.out
  have ng := H.out.ne_ 0 1 rfl rfl (by omega)
  obtain ⟨rr0, rr1, rr2, rr3⟩ := el_cells H.out (i := i) hi
  have fr0 := H.out.frz 1 rfl (by omega) (i * 4)
  have fr1 := H.out.frz 1 rfl (by omega) (i * 4 + 1)
  have fr2 := H.out.frz 1 rfl (by omega) (i * 4 + 2)
  have fr3 := H.out.frz 1 rfl (by omega) (i * 4 + 3)
  obtain ⟨rp0, rp1, rp2, rp3⟩ := el_cells H.out (i := t) ht
  have fp0 := H.out.frz 1 rfl (by omega) (t * 4)
  have fp1 := H.out.frz 1 rfl (by omega) (t * 4 + 1)
  have fp2 := H.out.frz 1 rfl (by omega) (t * 4 + 2)
  have fp3 := H.out.frz 1 rfl (by omega) (t * 4 + 3)
  by_cases hR : s.R i = 2
  case neg =>
    have HRQ := Lib.hid (HR.out.trans (if_pos hR))
    have e1 : (s.R i != 2) = true := by simpa using hR
    clear hR HR
    go_enter Try.func29, Try.ntmps29
    go_wp2
    go_ret
    have e9 := HRQ.out
    subst e9
    exact ⟨rfl, H.out⟩
  have HR1 := Lib.hid (HR.out.trans (if_neg (by simpa using hR)))
  rw [hR] at rr1
  clear HR hR
  by_cases hlt : s.T i < s.T t
  · have HR3 := Lib.hid (HR1.out.trans (if_pos hlt))
    clear HR1
    go_enter Try.func29, Try.ntmps29
    go_wp2
    refine wp_text_all (by kernel_rfl) (by kernel_rfl) (by kernel_rfl) (by repeat' (first | (with_reducible apply tame_then) | (with_reducible apply tame_block) | (with_reducible apply tame_scope) | exact tame_gives | exact tame_body (fun _ _ h => ⟨_, h.1⟩))) ?_
    go_wp2
    refine headed ?_
    go_wp2_with fail
    refine (know_any g gl n s A cap R w0 _ i (s.T t) hi H.out.drew).mono ?_
    rintro e w2 ⟨rfl, hk⟩
    have HK2 := Lib.hid hk
    clear hk
    go_wp2
    go_ret
    have e9 := HR3.out
    subst e9
    exact ⟨rfl, HK2.out⟩
  · have HR3 := Lib.hid (HR1.out.trans (if_neg hlt))
    clear HR1
    go_enter Try.func29, Try.ntmps29
    go_wp2
    refine wp_text_all (by kernel_rfl) (by kernel_rfl) (by kernel_rfl) (by repeat' (first | (with_reducible apply tame_then) | (with_reducible apply tame_block) | (with_reducible apply tame_scope) | exact tame_gives | exact tame_body (fun _ _ h => ⟨_, h.1⟩))) ?_
    go_wp2
    refine headed ?_
    go_wp2_with fail
    refine (know_any g gl n s A cap R w0 _ t (s.T i) ht H.out.drew).mono ?_
    rintro e w2 ⟨rfl, hk⟩
    clear c0 c1 ng rr0 rr1 rr2 rr3 fr0 fr1 fr2 fr3
    clear rp0 rp1 rp2 rp3 fp0 fp1 fp2 fp3 H
    have HK := Lib.hid hk
    clear hk
    generalize knowS t (s.T i) s = k at HK HR3
    obtain ⟨c0, c1⟩ := el_heads HK.out
    have ng := HK.out.ne_ 0 1 rfl rfl (by omega)
    obtain ⟨rr0, rr1, rr2, rr3⟩ := el_cells HK.out (i := t) ht
    have fr0 := HK.out.frz 1 rfl (by omega) (t * 4)
    have fr1 := HK.out.frz 1 rfl (by omega) (t * 4 + 1)
    have fr2 := HK.out.frz 1 rfl (by omega) (t * 4 + 2)
    have fr3 := HK.out.frz 1 rfl (by omega) (t * 4 + 3)
    go_wp2
    go_ret
    have e9 := HR3.out
    subst e9
    exact ⟨rfl, el_R 0 HK.out ht⟩
end
end Go.Proofs.Ytfhmabpalimcnaa
