/- The walk of paxos' moves: offers and takes that go. -/
import Derived.Test.YtpicmphimcgklaaPax2
set_option linter.unusedVariables false
set_option linter.unusedSimpArgs false
namespace Go.Proofs.Ytpicmphimcgklaa
open Go.RowKit

set_option maxRecDepth 100000 in
set_option maxHeartbeats 1600000 in
theorem do_off (g n : Nat) (s : PS) (gP gT gV : Nat) (C : Value) (f : Int) (b : Nat) (hb1 : 1 ≤ b) (hb9 : b ≤ 9) (t : Int) (w : World) (base : Nat) (hn1 : 1 ≤ n) (hn : n ≤ 6) (hI : PI n s) (h : PxSt w base g n s gP gT gV C) (hbs : base ≤ w.heap.size) (ho : s.of b = 0) (hm : mostB n (s.pr b) = true) (hbe : 0 < s.be b) :
    Calls Try.prog 10 #[.pointer (some ⟨g, 0, none⟩), .agg #[.int .i64 2, .int .i64 f, .int .i64 t, .int .i64 b]] w fun e w' => e = .returned (.int .i64 0) ∧ PxSt w' base g n (offS s b) gP gT gV C ∧ Kept (Xs g gP gT gV) w w' := by
  have H := Lib.hid h; clear h
  have HI := Lib.hid hI; clear hI
  obtain ⟨c0, _⟩ := H.out.heads
  have hgz := H.out.lt.2
  have HM := Lib.hid hm; clear hm
  have HO := Lib.hid ho; clear ho
  have HE : Hid (offS s b = { s with of := upd s.of b (s.va b) }) := by show _ = _; unfold offS; rw [if_pos hbe]
  go_enter Try.func10, Try.ntmps10
  go_wp2
  refine at_world (F := fun W' => Code.wp _ _ _ _ W') (fun W => DoW w W base g n s gP gT gV C 2 f t b) (DoW.made H.out hbs _ _ _ _) ?_
  intro W hW
  have HW := Lib.hid hW
  clear hW c0 hgz
  have m0 := HW.out.m0
  have m3 := HW.out.m3
  obtain ⟨c0, c51, c52, c53, c54, c55⟩ := HW.out.st.heads
  obtain ⟨b0, b1, b2, b3, b4⟩ := HW.out.st.bal (b := b) (by omega)
  have f4 := (HW.out.st.frz (by omega) (1 + b * 5)).1
  have f5 := (HW.out.st.frz (by omega) (1 + b * 5 + 2)).1
  have f6 := (HW.out.st.frz (by omega) (1 + b * 5 + 3)).1
  have f7 := (HW.out.st.frz (by omega) (1 + b * 5 + 1)).1
  have f8 := (HW.out.st.frz (by omega) (1 + b * 5 + 4)).1
  have f9 := (HW.out.st.frz (by omega) 52).1
  rw [HO.out] at b4
  have c0d : W.drew.cell? ⟨g, 0, none⟩ = some (.int .i64 n) := c0
  have HC := Lib.hid c0d; clear c0d
  refine wp_text_all (by kernel_rfl) (by kernel_rfl) (by kernel_rfl) (by repeat' (first | (with_reducible apply tame_then) | (with_reducible apply tame_block) | (with_reducible apply tame_scope) | exact tame_gives | exact tame_body (fun _ _ h => ⟨_, h.1⟩))) ?_
  go_wp2
  refine headed ?_
  go_wp2_with (go_at_call 13; refine (most_is _ g n _ _ (by have h1 := HI.out.prb b; have h2 := pow64 hn; omega) HC.out HM.out).mono ?_; rintro e w1 ⟨rfl, nm, rfl⟩)
  go_ret
  refine ⟨rfl, ?_, ?_⟩
  · rw [HE.out]
    have h3 : PxSt _ base g n _ gP gT gV C := ((HW.out.st.of_ (b := b) (by omega) b).of_ (b := b) (by omega) (s.va b)).congr (show _ = ({ s with of := upd s.of b (s.va b) } : PS) by simp [upd_upd])
    exact h3.sim ⟨rfl, rfl, rfl, rfl⟩
  · exact Kept.sim ((HW.out.bel.setCell (p := ⟨g, 1 + b * 5 + 4, none⟩) (.inl (.inl rfl)) (.int .i64 (b : Nat))).setCell (p := ⟨g, 1 + b * 5 + 4, none⟩) (.inl (.inl rfl)) (.int .i64 (s.va b : Nat))) ⟨rfl, rfl, rfl, rfl⟩
set_option maxRecDepth 100000 in
set_option maxHeartbeats 1600000 in
theorem do_off2 (g n : Nat) (s : PS) (gP gT gV : Nat) (C : Value) (f : Int) (b : Nat) (hb1 : 1 ≤ b) (hb9 : b ≤ 9) (t : Int) (w : World) (base : Nat) (hn1 : 1 ≤ n) (hn : n ≤ 6) (hI : PI n s) (h : PxSt w base g n s gP gT gV C) (hbs : base ≤ w.heap.size) (ho : s.of b = 0) (hm : mostB n (s.pr b) = true) (hbe : s.be b = 0) :
    Calls Try.prog 10 #[.pointer (some ⟨g, 0, none⟩), .agg #[.int .i64 2, .int .i64 f, .int .i64 t, .int .i64 b]] w fun e w' => e = .returned (.int .i64 0) ∧ PxSt w' base g n (offS s b) gP gT gV C ∧ Kept (Xs g gP gT gV) w w' := by
  have H := Lib.hid h; clear h
  have HI := Lib.hid hI; clear hI
  obtain ⟨c0, _⟩ := H.out.heads
  have hgz := H.out.lt.2
  have HM := Lib.hid hm; clear hm
  have HO := Lib.hid ho; clear ho
  have HE : Hid (offS s b = { s with of := upd s.of b (b) }) := by show _ = _; unfold offS; rw [if_neg (by omega)]
  have HBE := Lib.hid hbe; clear hbe
  go_enter Try.func10, Try.ntmps10
  go_wp2
  refine at_world (F := fun W' => Code.wp _ _ _ _ W') (fun W => DoW w W base g n s gP gT gV C 2 f t b) (DoW.made H.out hbs _ _ _ _) ?_
  intro W hW
  have HW := Lib.hid hW
  clear hW c0 hgz
  have m0 := HW.out.m0
  have m3 := HW.out.m3
  obtain ⟨c0, c51, c52, c53, c54, c55⟩ := HW.out.st.heads
  obtain ⟨b0, b1, b2, b3, b4⟩ := HW.out.st.bal (b := b) (by omega)
  have f4 := (HW.out.st.frz (by omega) (1 + b * 5)).1
  have f5 := (HW.out.st.frz (by omega) (1 + b * 5 + 2)).1
  have f6 := (HW.out.st.frz (by omega) (1 + b * 5 + 3)).1
  have f7 := (HW.out.st.frz (by omega) (1 + b * 5 + 1)).1
  have f8 := (HW.out.st.frz (by omega) (1 + b * 5 + 4)).1
  have f9 := (HW.out.st.frz (by omega) 52).1
  rw [HO.out] at b4
  rw [HBE.out] at b2
  have c0d : W.drew.cell? ⟨g, 0, none⟩ = some (.int .i64 n) := c0
  have HC := Lib.hid c0d; clear c0d
  refine wp_text_all (by kernel_rfl) (by kernel_rfl) (by kernel_rfl) (by repeat' (first | (with_reducible apply tame_then) | (with_reducible apply tame_block) | (with_reducible apply tame_scope) | exact tame_gives | exact tame_body (fun _ _ h => ⟨_, h.1⟩))) ?_
  go_wp2
  refine headed ?_
  go_wp2_with (go_at_call 13; refine (most_is _ g n _ _ (by have h1 := HI.out.prb b; have h2 := pow64 hn; omega) HC.out HM.out).mono ?_; rintro e w1 ⟨rfl, nm, rfl⟩)
  go_ret
  refine ⟨rfl, ?_, ?_⟩
  · rw [HE.out]
    have h3 : PxSt _ base g n _ gP gT gV C := (HW.out.st.of_ (b := b) (by omega) b)
    exact h3.sim ⟨rfl, rfl, rfl, rfl⟩
  · exact Kept.sim (HW.out.bel.setCell (p := ⟨g, 1 + b * 5 + 4, none⟩) (.inl (.inl rfl)) (.int .i64 (b : Nat))) ⟨rfl, rfl, rfl, rfl⟩
set_option maxRecDepth 100000 in
set_option maxHeartbeats 1600000 in
theorem do_none (g n : Nat) (s : PS) (gP gT gV : Nat) (C : Value) (i : Nat) (hi : i < n) (b : Nat) (hb1 : 1 ≤ b) (hb9 : b ≤ 9) (t : Int) (w : World) (base : Nat) (hn1 : 1 ≤ n) (hn : n ≤ 6) (hI : PI n s) (h : PxSt w base g n s gP gT gV C) (hbs : base ≤ w.heap.size) (ho : s.of b = 0) :
    Calls Try.prog 10 #[.pointer (some ⟨g, 0, none⟩), .agg #[.int .i64 3, .int .i64 i, .int .i64 t, .int .i64 b]] w fun e w' => e = .returned (.int .i64 5) ∧ PxSt w' base g n s gP gT gV C ∧ Kept (Xs g gP gT gV) w w' := by
  have H := Lib.hid h; clear h
  have HI := Lib.hid hI; clear hI
  obtain ⟨c0, _⟩ := H.out.heads
  have hgz := H.out.lt.2
  have HO := Lib.hid ho; clear ho
  go_enter Try.func10, Try.ntmps10
  go_wp2
  refine at_world (F := fun W' => Code.wp _ _ _ _ W') (fun W => DoW w W base g n s gP gT gV C 3 i t b) (DoW.made H.out hbs _ _ _ _) ?_
  intro W hW
  have HW := Lib.hid hW
  clear hW c0 hgz
  have m0 := HW.out.m0
  have m3 := HW.out.m3
  obtain ⟨c0, c51, c52, c53, c54, c55⟩ := HW.out.st.heads
  obtain ⟨b0, b1, b2, b3, b4⟩ := HW.out.st.bal (b := b) (by omega)
  have f4 := (HW.out.st.frz (by omega) (1 + b * 5)).1
  have f5 := (HW.out.st.frz (by omega) (1 + b * 5 + 2)).1
  have f6 := (HW.out.st.frz (by omega) (1 + b * 5 + 3)).1
  have f7 := (HW.out.st.frz (by omega) (1 + b * 5 + 1)).1
  have f8 := (HW.out.st.frz (by omega) (1 + b * 5 + 4)).1
  have f9 := (HW.out.st.frz (by omega) 52).1
  obtain ⟨p0, p1, p2⟩ := HW.out.st.rows hi
  obtain ⟨_, f1, f2, f3⟩ := HW.out.st.frz (by omega) i
  rw [HO.out] at b4
  refine wp_text_all (by kernel_rfl) (by kernel_rfl) (by kernel_rfl) (by repeat' (first | (with_reducible apply tame_then) | (with_reducible apply tame_block) | (with_reducible apply tame_scope) | exact tame_gives | exact tame_body (fun _ _ h => ⟨_, h.1⟩))) ?_
  go_wp2
  refine headed ?_
  go_wp2
  go_ret
  exact ⟨rfl, HW.out.st.sim ⟨rfl, rfl, rfl, rfl⟩, HW.out.bel.sim ⟨rfl, rfl, rfl, rfl⟩⟩
set_option maxRecDepth 100000 in
set_option maxHeartbeats 1600000 in
theorem do_old3 (g n : Nat) (s : PS) (gP gT gV : Nat) (C : Value) (i : Nat) (hi : i < n) (b : Nat) (hb1 : 1 ≤ b) (hb9 : b ≤ 9) (t : Int) (w : World) (base : Nat) (hn1 : 1 ≤ n) (hn : n ≤ 6) (hI : PI n s) (h : PxSt w base g n s gP gT gV C) (hbs : base ≤ w.heap.size) (ho : 0 < s.of b) (hp : b < s.P i) :
    Calls Try.prog 10 #[.pointer (some ⟨g, 0, none⟩), .agg #[.int .i64 3, .int .i64 i, .int .i64 t, .int .i64 b]] w fun e w' => e = .returned (.int .i64 8) ∧ PxSt w' base g n s gP gT gV C ∧ Kept (Xs g gP gT gV) w w' := by
  have H := Lib.hid h; clear h
  have HI := Lib.hid hI; clear hI
  obtain ⟨c0, _⟩ := H.out.heads
  have hgz := H.out.lt.2
  go_enter Try.func10, Try.ntmps10
  go_wp2
  refine at_world (F := fun W' => Code.wp _ _ _ _ W') (fun W => DoW w W base g n s gP gT gV C 3 i t b) (DoW.made H.out hbs _ _ _ _) ?_
  intro W hW
  have HW := Lib.hid hW
  clear hW c0 hgz
  have m0 := HW.out.m0
  have m3 := HW.out.m3
  obtain ⟨c0, c51, c52, c53, c54, c55⟩ := HW.out.st.heads
  obtain ⟨b0, b1, b2, b3, b4⟩ := HW.out.st.bal (b := b) (by omega)
  have f4 := (HW.out.st.frz (by omega) (1 + b * 5)).1
  have f5 := (HW.out.st.frz (by omega) (1 + b * 5 + 2)).1
  have f6 := (HW.out.st.frz (by omega) (1 + b * 5 + 3)).1
  have f7 := (HW.out.st.frz (by omega) (1 + b * 5 + 1)).1
  have f8 := (HW.out.st.frz (by omega) (1 + b * 5 + 4)).1
  have f9 := (HW.out.st.frz (by omega) 52).1
  obtain ⟨p0, p1, p2⟩ := HW.out.st.rows hi
  obtain ⟨_, f1, f2, f3⟩ := HW.out.st.frz (by omega) i
  refine wp_text_all (by kernel_rfl) (by kernel_rfl) (by kernel_rfl) (by repeat' (first | (with_reducible apply tame_then) | (with_reducible apply tame_block) | (with_reducible apply tame_scope) | exact tame_gives | exact tame_body (fun _ _ h => ⟨_, h.1⟩))) ?_
  go_wp2
  refine headed ?_
  go_wp2
  refine wp_text_all (by kernel_rfl) (by kernel_rfl) (by kernel_rfl) (by repeat' (first | (with_reducible apply tame_then) | (with_reducible apply tame_block) | (with_reducible apply tame_scope) | exact tame_gives | exact tame_body (fun _ _ h => ⟨_, h.1⟩))) ?_
  go_wp2
  refine headed ?_
  go_wp2
  go_ret
  exact ⟨rfl, HW.out.st.sim ⟨rfl, rfl, rfl, rfl⟩, HW.out.bel.sim ⟨rfl, rfl, rfl, rfl⟩⟩
set_option maxRecDepth 100000 in
set_option maxHeartbeats 1600000 in
theorem do_take (g n : Nat) (s : PS) (gP gT gV : Nat) (C : Value) (i : Nat) (hi : i < n) (b : Nat) (hb1 : 1 ≤ b) (hb9 : b ≤ 9) (t : Int) (w : World) (base : Nat) (hn1 : 1 ≤ n) (hn : n ≤ 6) (hI : PI n s) (h : PxSt w base g n s gP gT gV C) (hbs : base ≤ w.heap.size) (ho : 0 < s.of b) (hp : s.P i ≤ b) (hm : mostB n (s.tk b ||| 2 ^ i) = true) :
    Calls Try.prog 10 #[.pointer (some ⟨g, 0, none⟩), .agg #[.int .i64 3, .int .i64 i, .int .i64 t, .int .i64 b]] w fun e w' => e = .returned (.int .i64 0) ∧ PxSt w' base g n (takS n s i b) gP gT gV C ∧ Kept (Xs g gP gT gV) w w' := by
  have H := Lib.hid h; clear h
  have HI := Lib.hid hI; clear hI
  obtain ⟨c0, _⟩ := H.out.heads
  have hgz := H.out.lt.2
  have HM := Lib.hid hm; clear hm
  have HO := Lib.hid (or_pow (a := s.tk b) (m := i) (by have h1 := HI.out.tkb b; have h2 := pow64 hn; omega) (by omega))
  have HX : Hid (s.tk b ||| 2 ^ i < 64) := (by have h1 := or_lt (HI.out.tkb b) hi; have h2 := pow64 hn; show _ < 64; omega)
  have HE : Hid (takS n s i b = { s with P := upd s.P i b, T := upd s.T i b, V := upd s.V i (s.of b), tk := upd s.tk b (s.tk b ||| 2 ^ i), ch := (s.of b : Int) }) := by show _ = _; unfold takS; rw [HM.out]; rfl
  go_enter Try.func10, Try.ntmps10
  go_wp2
  refine at_world (F := fun W' => Code.wp _ _ _ _ W') (fun W => DoW w W base g n s gP gT gV C 3 i t b) (DoW.made H.out hbs _ _ _ _) ?_
  intro W hW
  have HW := Lib.hid hW
  clear hW c0 hgz
  have m0 := HW.out.m0
  have m3 := HW.out.m3
  obtain ⟨c0, c51, c52, c53, c54, c55⟩ := HW.out.st.heads
  obtain ⟨b0, b1, b2, b3, b4⟩ := HW.out.st.bal (b := b) (by omega)
  have f4 := (HW.out.st.frz (by omega) (1 + b * 5)).1
  have f5 := (HW.out.st.frz (by omega) (1 + b * 5 + 2)).1
  have f6 := (HW.out.st.frz (by omega) (1 + b * 5 + 3)).1
  have f7 := (HW.out.st.frz (by omega) (1 + b * 5 + 1)).1
  have f8 := (HW.out.st.frz (by omega) (1 + b * 5 + 4)).1
  have f9 := (HW.out.st.frz (by omega) 52).1
  obtain ⟨p0, p1, p2⟩ := HW.out.st.rows hi
  obtain ⟨_, f1, f2, f3⟩ := HW.out.st.frz (by omega) i
  refine wp_text_all (by kernel_rfl) (by kernel_rfl) (by kernel_rfl) (by repeat' (first | (with_reducible apply tame_then) | (with_reducible apply tame_block) | (with_reducible apply tame_scope) | exact tame_gives | exact tame_body (fun _ _ h => ⟨_, h.1⟩))) ?_
  go_wp2
  refine headed ?_
  go_wp2
  refine wp_text_all (by kernel_rfl) (by kernel_rfl) (by kernel_rfl) (by repeat' (first | (with_reducible apply tame_then) | (with_reducible apply tame_block) | (with_reducible apply tame_scope) | exact tame_gives | exact tame_body (fun _ _ h => ⟨_, h.1⟩))) ?_
  go_wp2
  refine headed ?_
  go_wp2
  obtain ⟨n1, n2, n3⟩ := HW.out.st.neg
  obtain ⟨n4, n5, n6⟩ := HW.out.st.ne
  obtain ⟨l1, l2, l3, l4⟩ := HW.out.lt
  have l5 : w.heap.size ≠ gP := by omega
  have l6 : w.heap.size ≠ gT := by omega
  have l7 : w.heap.size ≠ gV := by omega
  go_region
  refine at_world (F := fun W' => Exit.then _ _ .normal _ W') (fun W => DoW w W base g n { s with P := upd s.P i b, T := upd s.T i b, V := upd s.V i (s.of b) } gP gT gV C 3 i t b) ((((HW.out.step (.inr (.inl rfl)) (HW.out.st.P_ hi b)).step (.inr (.inr (.inl rfl))) ((HW.out.st.P_ hi b).T_ hi b)).step (.inr (.inr (.inr rfl))) (((HW.out.st.P_ hi b).T_ hi b).V_ hi (s.of b))).sim ⟨rfl, rfl, rfl, rfl⟩) ?_
  intro W2 hW
  have HW2 := Lib.hid hW
  clear hW
  clear m0 m3 c0 c51 c52 c53 c54 c55 b0 b1 b2 b3 b4 f4 f5 f6 f7 f8 f9
  clear p0 p1 p2 f1 f2 f3
  have m0 := HW2.out.m0
  have m3 := HW2.out.m3
  obtain ⟨c0, c51, c52, c53, c54, c55⟩ := HW2.out.st.heads
  obtain ⟨b0, b1, b2, b3, b4⟩ := HW2.out.st.bal (b := b) (by omega)
  have f4 := (HW2.out.st.frz (by omega) (1 + b * 5)).1
  have f5 := (HW2.out.st.frz (by omega) (1 + b * 5 + 2)).1
  have f6 := (HW2.out.st.frz (by omega) (1 + b * 5 + 3)).1
  have f7 := (HW2.out.st.frz (by omega) (1 + b * 5 + 1)).1
  have f8 := (HW2.out.st.frz (by omega) (1 + b * 5 + 4)).1
  have f9 := (HW2.out.st.frz (by omega) 52).1
  go_wp2
  refine wp_text 9 (by kernel_rfl) (by kernel_rfl) (by kernel_rfl) (by repeat' (first | (with_reducible apply tame_then) | (with_reducible apply tame_block) | (with_reducible apply tame_scope) | exact tame_gives | exact tame_body (fun _ _ h => ⟨_, h.1⟩))) ?_; simp only [List.take_succ_cons, List.take_zero, List.drop_succ_cons, List.drop_zero]
  go_wp2
  refine headed ?_
  go_wp2_with fail
  refine at_world (F := fun W' => Calls _ _ _ W' _) (fun W => DoW w W base g n { s with P := upd s.P i b, T := upd s.T i b, V := upd s.V i (s.of b), tk := upd s.tk b (s.tk b ||| 2 ^ i) } gP gT gV C 3 i t b) ((HW2.out.step (.inl rfl) (by rw [HO.out]; exact HW2.out.st.tk_ (by omega) (s.tk b ||| 2 ^ i))).sim ⟨rfl, rfl, rfl, rfl⟩) ?_
  intro W3 hW
  have HW3 := Lib.hid hW
  clear hW
  rw [HO.out]
  refine (most_is _ g n _ _ HX.out HW3.out.st.heads.1 HM.out).mono ?_
  rintro e w1 ⟨rfl, nm, rfl⟩
  clear m0 m3 c0 c51 c52 c53 c54 c55 b0 b1 b2 b3 b4 f4 f5 f6 f7 f8 f9
  have m0 := HW3.out.m0
  have m3 := HW3.out.m3
  obtain ⟨c0, c51, c52, c53, c54, c55⟩ := HW3.out.st.heads
  obtain ⟨b0, b1, b2, b3, b4⟩ := HW3.out.st.bal (b := b) (by omega)
  have f4 := (HW3.out.st.frz (by omega) (1 + b * 5)).1
  have f5 := (HW3.out.st.frz (by omega) (1 + b * 5 + 2)).1
  have f6 := (HW3.out.st.frz (by omega) (1 + b * 5 + 3)).1
  have f7 := (HW3.out.st.frz (by omega) (1 + b * 5 + 1)).1
  have f8 := (HW3.out.st.frz (by omega) (1 + b * 5 + 4)).1
  have f9 := (HW3.out.st.frz (by omega) 52).1
  go_wp2
  go_ret
  refine ⟨rfl, ?_, ?_⟩
  · rw [HE.out]
    exact (HW3.out.st.ch_ (s.of b : Int)).sim ⟨rfl, rfl, rfl, rfl⟩
  · exact (HW3.out.bel.setCell (p := ⟨g, 52, none⟩) (.inl (.inl rfl)) (.int .i64 (s.of b : Int))).sim ⟨rfl, rfl, rfl, rfl⟩
set_option maxRecDepth 100000 in
set_option maxHeartbeats 1600000 in
theorem do_take2 (g n : Nat) (s : PS) (gP gT gV : Nat) (C : Value) (i : Nat) (hi : i < n) (b : Nat) (hb1 : 1 ≤ b) (hb9 : b ≤ 9) (t : Int) (w : World) (base : Nat) (hn1 : 1 ≤ n) (hn : n ≤ 6) (hI : PI n s) (h : PxSt w base g n s gP gT gV C) (hbs : base ≤ w.heap.size) (ho : 0 < s.of b) (hp : s.P i ≤ b) (hm : mostB n (s.tk b ||| 2 ^ i) = false) :
    Calls Try.prog 10 #[.pointer (some ⟨g, 0, none⟩), .agg #[.int .i64 3, .int .i64 i, .int .i64 t, .int .i64 b]] w fun e w' => e = .returned (.int .i64 0) ∧ PxSt w' base g n (takS n s i b) gP gT gV C ∧ Kept (Xs g gP gT gV) w w' := by
  have H := Lib.hid h; clear h
  have HI := Lib.hid hI; clear hI
  obtain ⟨c0, _⟩ := H.out.heads
  have hgz := H.out.lt.2
  have HM := Lib.hid hm; clear hm
  have HO := Lib.hid (or_pow (a := s.tk b) (m := i) (by have h1 := HI.out.tkb b; have h2 := pow64 hn; omega) (by omega))
  have HX : Hid (s.tk b ||| 2 ^ i < 64) := (by have h1 := or_lt (HI.out.tkb b) hi; have h2 := pow64 hn; show _ < 64; omega)
  have HE : Hid (takS n s i b = { s with P := upd s.P i b, T := upd s.T i b, V := upd s.V i (s.of b), tk := upd s.tk b (s.tk b ||| 2 ^ i) }) := by show _ = _; unfold takS; rw [HM.out]; rfl
  go_enter Try.func10, Try.ntmps10
  go_wp2
  refine at_world (F := fun W' => Code.wp _ _ _ _ W') (fun W => DoW w W base g n s gP gT gV C 3 i t b) (DoW.made H.out hbs _ _ _ _) ?_
  intro W hW
  have HW := Lib.hid hW
  clear hW c0 hgz
  have m0 := HW.out.m0
  have m3 := HW.out.m3
  obtain ⟨c0, c51, c52, c53, c54, c55⟩ := HW.out.st.heads
  obtain ⟨b0, b1, b2, b3, b4⟩ := HW.out.st.bal (b := b) (by omega)
  have f4 := (HW.out.st.frz (by omega) (1 + b * 5)).1
  have f5 := (HW.out.st.frz (by omega) (1 + b * 5 + 2)).1
  have f6 := (HW.out.st.frz (by omega) (1 + b * 5 + 3)).1
  have f7 := (HW.out.st.frz (by omega) (1 + b * 5 + 1)).1
  have f8 := (HW.out.st.frz (by omega) (1 + b * 5 + 4)).1
  have f9 := (HW.out.st.frz (by omega) 52).1
  obtain ⟨p0, p1, p2⟩ := HW.out.st.rows hi
  obtain ⟨_, f1, f2, f3⟩ := HW.out.st.frz (by omega) i
  refine wp_text_all (by kernel_rfl) (by kernel_rfl) (by kernel_rfl) (by repeat' (first | (with_reducible apply tame_then) | (with_reducible apply tame_block) | (with_reducible apply tame_scope) | exact tame_gives | exact tame_body (fun _ _ h => ⟨_, h.1⟩))) ?_
  go_wp2
  refine headed ?_
  go_wp2
  refine wp_text_all (by kernel_rfl) (by kernel_rfl) (by kernel_rfl) (by repeat' (first | (with_reducible apply tame_then) | (with_reducible apply tame_block) | (with_reducible apply tame_scope) | exact tame_gives | exact tame_body (fun _ _ h => ⟨_, h.1⟩))) ?_
  go_wp2
  refine headed ?_
  go_wp2
  obtain ⟨n1, n2, n3⟩ := HW.out.st.neg
  obtain ⟨n4, n5, n6⟩ := HW.out.st.ne
  obtain ⟨l1, l2, l3, l4⟩ := HW.out.lt
  have l5 : w.heap.size ≠ gP := by omega
  have l6 : w.heap.size ≠ gT := by omega
  have l7 : w.heap.size ≠ gV := by omega
  go_region
  refine at_world (F := fun W' => Exit.then _ _ .normal _ W') (fun W => DoW w W base g n { s with P := upd s.P i b, T := upd s.T i b, V := upd s.V i (s.of b) } gP gT gV C 3 i t b) ((((HW.out.step (.inr (.inl rfl)) (HW.out.st.P_ hi b)).step (.inr (.inr (.inl rfl))) ((HW.out.st.P_ hi b).T_ hi b)).step (.inr (.inr (.inr rfl))) (((HW.out.st.P_ hi b).T_ hi b).V_ hi (s.of b))).sim ⟨rfl, rfl, rfl, rfl⟩) ?_
  intro W2 hW
  have HW2 := Lib.hid hW
  clear hW
  clear m0 m3 c0 c51 c52 c53 c54 c55 b0 b1 b2 b3 b4 f4 f5 f6 f7 f8 f9
  clear p0 p1 p2 f1 f2 f3
  have m0 := HW2.out.m0
  have m3 := HW2.out.m3
  obtain ⟨c0, c51, c52, c53, c54, c55⟩ := HW2.out.st.heads
  obtain ⟨b0, b1, b2, b3, b4⟩ := HW2.out.st.bal (b := b) (by omega)
  have f4 := (HW2.out.st.frz (by omega) (1 + b * 5)).1
  have f5 := (HW2.out.st.frz (by omega) (1 + b * 5 + 2)).1
  have f6 := (HW2.out.st.frz (by omega) (1 + b * 5 + 3)).1
  have f7 := (HW2.out.st.frz (by omega) (1 + b * 5 + 1)).1
  have f8 := (HW2.out.st.frz (by omega) (1 + b * 5 + 4)).1
  have f9 := (HW2.out.st.frz (by omega) 52).1
  go_wp2
  refine wp_text 9 (by kernel_rfl) (by kernel_rfl) (by kernel_rfl) (by repeat' (first | (with_reducible apply tame_then) | (with_reducible apply tame_block) | (with_reducible apply tame_scope) | exact tame_gives | exact tame_body (fun _ _ h => ⟨_, h.1⟩))) ?_; simp only [List.take_succ_cons, List.take_zero, List.drop_succ_cons, List.drop_zero]
  go_wp2
  refine headed ?_
  go_wp2_with fail
  refine at_world (F := fun W' => Calls _ _ _ W' _) (fun W => DoW w W base g n { s with P := upd s.P i b, T := upd s.T i b, V := upd s.V i (s.of b), tk := upd s.tk b (s.tk b ||| 2 ^ i) } gP gT gV C 3 i t b) ((HW2.out.step (.inl rfl) (by rw [HO.out]; exact HW2.out.st.tk_ (by omega) (s.tk b ||| 2 ^ i))).sim ⟨rfl, rfl, rfl, rfl⟩) ?_
  intro W3 hW
  have HW3 := Lib.hid hW
  clear hW
  rw [HO.out]
  refine (most_is _ g n _ _ HX.out HW3.out.st.heads.1 HM.out).mono ?_
  rintro e w1 ⟨rfl, nm, rfl⟩
  clear m0 m3 c0 c51 c52 c53 c54 c55 b0 b1 b2 b3 b4 f4 f5 f6 f7 f8 f9
  have m0 := HW3.out.m0
  have m3 := HW3.out.m3
  obtain ⟨c0, c51, c52, c53, c54, c55⟩ := HW3.out.st.heads
  obtain ⟨b0, b1, b2, b3, b4⟩ := HW3.out.st.bal (b := b) (by omega)
  have f4 := (HW3.out.st.frz (by omega) (1 + b * 5)).1
  have f5 := (HW3.out.st.frz (by omega) (1 + b * 5 + 2)).1
  have f6 := (HW3.out.st.frz (by omega) (1 + b * 5 + 3)).1
  have f7 := (HW3.out.st.frz (by omega) (1 + b * 5 + 1)).1
  have f8 := (HW3.out.st.frz (by omega) (1 + b * 5 + 4)).1
  have f9 := (HW3.out.st.frz (by omega) 52).1
  go_wp2
  go_ret
  exact ⟨rfl, by rw [HE.out]; exact HW3.out.st.sim ⟨rfl, rfl, rfl, rfl⟩, HW3.out.bel.sim ⟨rfl, rfl, rfl, rfl⟩⟩
end Go.Proofs.Ytpicmphimcgklaa
