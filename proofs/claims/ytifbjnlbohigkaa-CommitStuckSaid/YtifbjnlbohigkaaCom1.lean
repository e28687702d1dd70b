/- The walks of commit's small functions. -/
import Derived.Test.YtifbjnlbohigkaaComMath
import Derived.Test.YtifbjnlbohigkaaLay
import Derived.Test.YtifbjnlbohigkaaText
set_option linter.unusedVariables false
set_option linter.unusedSimpArgs false
namespace Go.Proofs.Ytifbjnlbohigkaa
open Go.RowKit

abbrev rowsC (g n gs gg gy : Nat) (s : CS) (R : List LRow) : List LRow :=
  blk g 39 3 (ofL [.slice (some ⟨gs, 0, none⟩) n n, .slice (some ⟨gg, 0, none⟩) n n, .slice (some ⟨gy, 0, none⟩) n n]) ::
  arr gs 3 n (fun i => .int .i64 (s.st i)) :: arr gg 4 n (fun i => .bool (s.gone i)) :: arr gy 4 n (fun i => .bool (s.yes i)) :: R

theorem decided_any (x : Int) (w : World) : Calls Try.prog 19 #[.int .i64 x] w fun e w' => e = .returned (.bool (dec x)) ∧ w = w' := by
  go_enter Try.func19, Try.ntmps19
  have hd : dec x = ((x == 2) || (x == 3)) := rfl
  obtain ⟨b, hb⟩ : ∃ b, (x == 2) = b := ⟨_, rfl⟩
  rw [hb] at hd
  rw [hd]
  cases b
  · go_wp2
    go_ret
    exact ⟨rfl, rfl⟩
  · go_wp2
    go_ret
    exact ⟨rfl, rfl⟩

section
variable (g n gs gg gy : Nat) (s : CS) (R : List LRow) (w0 w : World)
theorem vote_any (i : Nat) (hi : i < n) (v : Int) (h : Lay w0 w (rowsC g n gs gg gy s R)) :
    Calls Try.prog 15 #[.pointer (some ⟨g, 0, none⟩), .int .i64 i, .int .i64 v] w fun e w' => e = .returned (.int .i64 (voteS i v s).1) ∧ Lay w0 w' (rowsC g n gs gg gy (voteS i v s).2 R) := by
  have H := Lib.hid h; clear h
  have c0 := H.out.cellB 0 rfl 0 (by omega)
  have c1 := H.out.cellB 0 rfl 1 (by omega)
  have c2 := H.out.cellB 0 rfl 2 (by omega)
  simp only [ofL_0, ofL_1, ofL_2] at c0 c1 c2
  have r1 := H.out.cell1 1 rfl (j := i) hi
  have r2 := H.out.cell1 2 rfl (j := 0) (by omega)
  have r3 := H.out.cell1 3 rfl (j := i) hi
  have fs := H.out.frz 1 rfl (by omega) i
  have fy := H.out.frz 3 rfl (by omega) i
  have n1 := H.out.ne_ 0 1 rfl rfl (by omega)
  have n2 := H.out.ne_ 0 3 rfl rfl (by omega)
  have n3 := H.out.ne_ 1 2 rfl rfl (by omega)
  have n4 := H.out.ne_ 1 3 rfl rfl (by omega)
  unfold voteS
  by_cases h0 : s.st i = 0
  · rw [if_neg (by simp [h0])]
    rw [h0] at r1
    by_cases h1 : v = 1
    · rw [if_pos h1]
      subst h1
      clear h0
      go_enter Try.func15, Try.ntmps15
      go_wp2
      refine wp_text 13 (by kernel_rfl) (by kernel_rfl) (by kernel_rfl) (by repeat' (first | (with_reducible apply tame_then) | (with_reducible apply tame_block) | (with_reducible apply tame_scope) | exact tame_gives | exact tame_body (fun _ _ h => ⟨_, h.1⟩))) ?_
      simp only [List.take_succ_cons, List.take_zero, List.drop_succ_cons, List.drop_zero]
      go_wp2
      refine headed ?_
      go_wp2
      go_ret
      exact ⟨rfl, ((H.out.upd 1 3 rfl hi).upd 1 1 rfl hi).drew.upd 3 (!s.gone 0) rfl hi⟩
    · rw [if_neg h1]
      clear h0
      go_enter Try.func15, Try.ntmps15
      go_wp2
      go_ret
      exact ⟨rfl, H.out.upd 1 3 rfl hi⟩
  · rw [if_pos h0]
    go_enter Try.func15, Try.ntmps15
    go_wp2
    go_ret
    exact ⟨rfl, H.out⟩
theorem back_any (i : Nat) (hi : i < n) (h : Lay w0 w (rowsC g n gs gg gy s R)) :
    Calls Try.prog 14 #[.pointer (some ⟨g, 0, none⟩), .int .i64 i] w fun e w' => e = .returned (.int .i64 (backS i s).1) ∧ Lay w0 w' (rowsC g n gs gg gy (backS i s).2 R) := by
  have H := Lib.hid h; clear h
  have c0 := H.out.cellB 0 rfl 0 (by omega)
  have c1 := H.out.cellB 0 rfl 1 (by omega)
  have c2 := H.out.cellB 0 rfl 2 (by omega)
  simp only [ofL_0, ofL_1, ofL_2] at c0 c1 c2
  have r0 := H.out.cell1 1 rfl (j := 0) (by omega)
  have r1 := H.out.cell1 2 rfl (j := i) hi
  have f0 := H.out.frz 1 rfl (by omega) 0
  have f1 := H.out.frz 2 rfl (by omega) i
  have n1 := H.out.ne_ 0 1 rfl rfl (by omega)
  have n2 := H.out.ne_ 0 2 rfl rfl (by omega)
  have n3 := H.out.ne_ 1 2 rfl rfl (by omega)
  unfold backS
  cases hg : s.gone i
  · rw [hg] at r1
    rw [if_pos (by simp)]
    clear hg
    go_enter Try.func14, Try.ntmps14
    go_wp2
    go_ret
    exact ⟨rfl, H.out⟩
  · rw [hg] at r1
    rw [if_neg (by simp)]
    clear hg
    have H1 := Lib.hid (H.out.upd 2 (mk := fun b => .bool b) false rfl hi)
    by_cases hi0 : i = 0
    · subst hi0
      obtain ⟨b, hb⟩ : ∃ b, dec (s.st 0) = b := ⟨_, rfl⟩
      rw [hb]
      have HB := Lib.hid hb
      clear hb
      go_enter Try.func14, Try.ntmps14
      cases b
      · go_wp2_with (go_at_call 19; refine (bool_is (decided_any _ _) HB.out).mono ?_; rintro e w3 ⟨rfl, rfl⟩)
        go_ret
        exact ⟨rfl, H1.out.upd 1 3 rfl (by omega)⟩
      · go_wp2_with (go_at_call 19; refine (bool_is (decided_any _ _) HB.out).mono ?_; rintro e w3 ⟨rfl, rfl⟩)
        go_ret
        exact ⟨rfl, H1.out⟩
    · rw [show (decide (i = 0) && !dec (s.st 0)) = false by simp [hi0]]
      go_enter Try.func14, Try.ntmps14
      go_wp2
      go_ret
      exact ⟨rfl, H1.out⟩
theorem tell_any (t : Nat) (ht : t < n) (h : Lay w0 w (rowsC g n gs gg gy s R)) :
    Calls Try.prog 17 #[.pointer (some ⟨g, 0, none⟩), .int .i64 t] w fun e w' => e = .returned (.int .i64 (tellS t s).1) ∧ Lay w0 w' (rowsC g n gs gg gy (tellS t s).2 R) := by
  have H := Lib.hid h; clear h
  have c0 := H.out.cellB 0 rfl 0 (by omega)
  have c1 := H.out.cellB 0 rfl 1 (by omega)
  have c2 := H.out.cellB 0 rfl 2 (by omega)
  simp only [ofL_0, ofL_1, ofL_2] at c0 c1 c2
  have r0 := H.out.cell1 1 rfl (j := 0) (by omega)
  have r1 := H.out.cell1 1 rfl (j := t) ht
  have f0 := H.out.frz 1 rfl (by omega) t
  unfold tellS
  obtain ⟨b, hb⟩ : ∃ b, dec (s.st 0) = b := ⟨_, rfl⟩
  rw [hb]
  have HB := Lib.hid hb
  clear hb
  go_enter Try.func17, Try.ntmps17
  cases b
  · go_wp2_with (go_at_call 19; refine (bool_is (decided_any _ _) HB.out).mono ?_; rintro e w3 ⟨rfl, rfl⟩)
    go_ret
    exact ⟨rfl, H.out⟩
  · obtain ⟨c, hc⟩ : ∃ c, dec (s.st t) = c := ⟨_, rfl⟩
    rw [hc]
    have HC := Lib.hid hc
    clear hc
    cases c
    · go_wp2_with (go_at_call 19; first
        | ((with_reducible refine (bool_is (decided_any (s.st 0) _) HB.out).mono ?_); rintro e w3 ⟨rfl, rfl⟩)
        | ((with_reducible refine (bool_is (decided_any (s.st t) _) HC.out).mono ?_); rintro e w3 ⟨rfl, rfl⟩))
      refine wp_text 12 (by kernel_rfl) (by kernel_rfl) (by kernel_rfl) (by repeat' (first | (with_reducible apply tame_then) | (with_reducible apply tame_block) | (with_reducible apply tame_scope) | exact tame_gives | exact tame_body (fun _ _ h => ⟨_, h.1⟩))) ?_
      simp only [List.take_succ_cons, List.take_zero, List.drop_succ_cons, List.drop_zero]
      go_wp2
      refine headed ?_
      go_wp2
      go_ret
      exact ⟨rfl, H.out.drew.upd 1 (s.st 0) rfl ht⟩
    · go_wp2_with (go_at_call 19; first
        | ((with_reducible refine (bool_is (decided_any (s.st 0) _) HB.out).mono ?_); rintro e w3 ⟨rfl, rfl⟩)
        | ((with_reducible refine (bool_is (decided_any (s.st t) _) HC.out).mono ?_); rintro e w3 ⟨rfl, rfl⟩))
      go_ret
      exact ⟨rfl, H.out⟩
theorem ask_any (f t : Nat) (hf : f < n) (ht : t < n) (hft : f ≠ t) (h : Lay w0 w (rowsC g n gs gg gy s R)) :
    Calls Try.prog 18 #[.pointer (some ⟨g, 0, none⟩), .int .i64 f, .int .i64 t] w fun e w' => e = .returned (.int .i64 (askS f t s).1) ∧ Lay w0 w' (rowsC g n gs gg gy (askS f t s).2 R) := by
  have H := Lib.hid h; clear h
  have c0 := H.out.cellB 0 rfl 0 (by omega)
  have c1 := H.out.cellB 0 rfl 1 (by omega)
  have c2 := H.out.cellB 0 rfl 2 (by omega)
  simp only [ofL_0, ofL_1, ofL_2] at c0 c1 c2
  have r0 := H.out.cell1 1 rfl (j := f) hf
  have r1 := H.out.cell1 1 rfl (j := t) ht
  have f0 := H.out.frz 1 rfl (by omega) t
  have f1 := H.out.frz 1 rfl (by omega) f
  have n1 := H.out.ne_ 0 1 rfl rfl (by omega)
  unfold askS
  by_cases h0 : s.st f = 0
  · rw [if_pos h0]
    rw [h0] at r0
    go_enter Try.func18, Try.ntmps18
    go_wp2
    go_ret
    exact ⟨rfl, H.out⟩
  rw [if_neg h0]
  obtain ⟨b, hb⟩ : ∃ b, dec (s.st f) = b := ⟨_, rfl⟩
  rw [hb]
  have HB := Lib.hid hb
  clear hb
  have e0 : (s.st f == 0) = false := by simpa using h0
  clear h0
  cases b
  case true =>
    go_enter Try.func18, Try.ntmps18
    go_wp2_with (go_at_call 19; refine (bool_is (decided_any _ _) HB.out).mono ?_; rintro e w3 ⟨rfl, rfl⟩)
    go_ret
    exact ⟨rfl, H.out⟩
  rw [if_neg (by simp)]
  by_cases h1 : s.st t = 1
  · rw [if_pos h1]
    rw [h1] at r1
    clear h1
    go_enter Try.func18, Try.ntmps18
    go_wp2_with (go_at_call 19; refine (bool_is (decided_any _ _) HB.out).mono ?_; rintro e w3 ⟨rfl, rfl⟩)
    go_ret
    exact ⟨rfl, H.out⟩
  rw [if_neg h1]
  by_cases h2 : s.st t = 0
  · rw [if_pos h2]
    rw [h2] at r1
    clear h1 h2
    go_enter Try.func18, Try.ntmps18
    go_wp2_with (go_at_call 19; refine (bool_is (decided_any _ _) HB.out).mono ?_; rintro e w3 ⟨rfl, rfl⟩)
    refine wp_text 13 (by kernel_rfl) (by kernel_rfl) (by kernel_rfl) (by repeat' (first | (with_reducible apply tame_then) | (with_reducible apply tame_block) | (with_reducible apply tame_scope) | exact tame_gives | exact tame_body (fun _ _ h => ⟨_, h.1⟩))) ?_
    simp only [List.take_succ_cons, List.take_zero, List.drop_succ_cons, List.drop_zero]
    go_wp2
    refine headed ?_
    go_wp2
    go_ret
    exact ⟨rfl, (H.out.upd 1 3 rfl ht).drew.upd 1 3 rfl hf⟩
  · rw [if_neg h2]
    have e1 : (s.st t == 1) = false := by simpa using h1
    have e2 : (s.st t == 0) = false := by simpa using h2
    clear h1 h2
    go_enter Try.func18, Try.ntmps18
    go_wp2_with (go_at_call 19; refine (bool_is (decided_any _ _) HB.out).mono ?_; rintro e w3 ⟨rfl, rfl⟩)
    refine wp_text 13 (by kernel_rfl) (by kernel_rfl) (by kernel_rfl) (by repeat' (first | (with_reducible apply tame_then) | (with_reducible apply tame_block) | (with_reducible apply tame_scope) | exact tame_gives | exact tame_body (fun _ _ h => ⟨_, h.1⟩))) ?_
    simp only [List.take_succ_cons, List.take_zero, List.drop_succ_cons, List.drop_zero]
    go_wp2
    refine headed ?_
    go_wp2
    go_ret
    exact ⟨rfl, H.out.drew.upd 1 (s.st t) rfl hf⟩
theorem tally_go (hn1 : 1 ≤ n) (hn : n ≤ 6) (h : Lay w0 w (rowsC g n gs gg gy s R)) (hd : dec (s.st 0) = false) :
    Calls Try.prog 16 #[.pointer (some ⟨g, 0, none⟩)] w fun e w' => e = .returned (.int .i64 0) ∧ Lay w0 w' (rowsC g n gs gg gy (setSt s 0 (tallyTo s (n - 1))) R) := by
  have H := Lib.hid h; clear h
  have HD := Lib.hid hd; clear hd
  have H2 := Lib.hid (H.out.upd 1 2 rfl (j := 0) (by omega))
  have c0 := H.out.cellB 0 rfl 0 (by omega)
  have c1 := H.out.cellB 0 rfl 1 (by omega)
  have c2 := H.out.cellB 0 rfl 2 (by omega)
  simp only [ofL_0, ofL_1, ofL_2] at c0 c1 c2
  have r0 := H.out.cell1 1 rfl (j := 0) (by omega)
  have f0 := H.out.frz 1 rfl (by omega) 0
  have n1 := H.out.ne_ 0 1 rfl rfl (by omega)
  by_cases hn2 : n = 1
  · subst hn2
    go_enter Try.func16, Try.ntmps16
    go_wp2_with (go_at_call 19; refine (bool_is (decided_any _ _) HD.out).mono ?_; rintro e w3 ⟨rfl, rfl⟩)
    go_loopw [23] (fun i wr => i = .int .i64 0 ∧ Hid (Lay w0 wr (rowsC g 1 gs gg gy (setSt s 0 2) R))) (fun _ _ => 0)
    case atStart => exact ⟨rfl, H2⟩
    case round =>
      obtain ⟨rfl, HQ⟩ := hrel
      go_wp2
      go_ret
      exact ⟨rfl, HQ.out⟩
  · go_enter Try.func16, Try.ntmps16
    go_wp2_with (go_at_call 19; refine (bool_is (decided_any _ _) HD.out).mono ?_; rintro e w3 ⟨rfl, rfl⟩)
    clear c0 c1 c2 r0 f0
    go_loopw [23] (fun i wr => ∃ q : Nat, q ≤ n - 1 ∧ i = .int .i64 q ∧ Hid (Lay w0 wr (rowsC g n gs gg gy (setSt s 0 (tallyTo s q)) R))) (fun i _ => (n - 1) - (intOf i).toNat)
    case atStart => exact ⟨0, by omega, rfl, H2⟩
    case round =>
      obtain ⟨q, hq, rfl, HQ⟩ := hrel
      by_cases hlt : q < n - 1
      · have c0 := HQ.out.cellB 0 rfl 0 (by omega)
        have c1 := HQ.out.cellB 0 rfl 1 (by omega)
        have c2 := HQ.out.cellB 0 rfl 2 (by omega)
        simp only [ofL_0, ofL_1, ofL_2] at c0 c1 c2
        have f0 := HQ.out.frz 1 rfl (by omega) 0
        have r0 := HQ.out.cell1 1 rfl (j := 0) (by omega)
        have HN := Lib.hid (show tallyTo s (q + 1) = if (anyTo (fun j => !s.yes (j + 1)) q || !s.yes (q + 1)) then 3 else 2 from rfl)
        have HM := Lib.hid (show tallyTo s q = if anyTo (fun j => !s.yes (j + 1)) q then 3 else 2 from rfl)
        have r2 : wr.cell? ⟨gy, 1 + q, none⟩ = some (.bool (s.yes (q + 1))) := by rw [Nat.add_comm q 1]; exact HQ.out.cell1 3 rfl (j := 1 + q) (by omega)
        have hset : ∀ x y, setSt (setSt s 0 x) 0 y = setSt s 0 y := by
          intro x y
          unfold setSt
          congr 1
          funext j
          simp only [upd_apply]
          split <;> rfl
        have HSS := Lib.hid hset
        clear hset
        obtain ⟨b, hb⟩ : ∃ b, s.yes (q + 1) = b := ⟨_, rfl⟩
        rw [hb] at r2 HN
        clear hb
        cases b
        · go_wp2
          go_roundw
          case rel => exact ⟨q + 1, by omega, by go_num, by show Lay _ _ _; rw [show tallyTo s (q + 1) = 3 by rw [HN.out]; simp, ← HSS.out (tallyTo s q) 3]; exact HQ.out.upd 1 3 rfl (by omega)⟩
          case measure => simp [intOf]; omega
        · go_wp2
          go_roundw
          case rel => exact ⟨q + 1, by omega, by go_num, by show Lay _ _ _; rw [show tallyTo s (q + 1) = tallyTo s q by rw [HN.out, HM.out]; simp]; exact HQ.out⟩
          case measure => simp [intOf]; omega
      · obtain rfl : q = n - 1 := by omega
        go_wp2
        go_ret
        exact ⟨rfl, HQ.out⟩
theorem tally_any (hn1 : 1 ≤ n) (hn : n ≤ 6) (h : Lay w0 w (rowsC g n gs gg gy s R)) :
    Calls Try.prog 16 #[.pointer (some ⟨g, 0, none⟩)] w fun e w' => e = .returned (.int .i64 (tallyS n s).1) ∧ Lay w0 w' (rowsC g n gs gg gy (tallyS n s).2 R) := by
  unfold tallyS
  cases hd : dec (s.st 0)
  · exact tally_go g n gs gg gy s R w0 w hn1 hn h hd
  · rw [if_pos rfl]
    have H := Lib.hid h; clear h
    have HD := Lib.hid hd; clear hd
    have c0 := H.out.cellB 0 rfl 0 (by omega)
    have c1 := H.out.cellB 0 rfl 1 (by omega)
    have c2 := H.out.cellB 0 rfl 2 (by omega)
    simp only [ofL_0, ofL_1, ofL_2] at c0 c1 c2
    have r0 := H.out.cell1 1 rfl (j := 0) (by omega)
    go_enter Try.func16, Try.ntmps16
    go_wp2_with (go_at_call 19; refine (bool_is (decided_any _ _) HD.out).mono ?_; rintro e w3 ⟨rfl, rfl⟩)
    go_ret
    exact ⟨rfl, H.out⟩
end
end Go.Proofs.Ytifbjnlbohigkaa
