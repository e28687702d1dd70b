/- The walk of paxos' moves. -/
import Derived.Test.YtpicmphimcgklaaPaxSt
import Derived.Deep.QuietTactic
import Derived.RegionTactic
import Derived.BigRegion
set_option linter.unusedVariables false
set_option linter.unusedSimpArgs false
namespace Go.Proofs.Ytpicmphimcgklaa
open Go.RowKit

set_option maxRecDepth 100000 in
set_option maxHeartbeats 800000 in
theorem most_any (g n x : Nat) (w : World) (hx : x < 64) (hc : w.cell? ⟨g, 0, none⟩ = some (.int .i64 n)) :
    Calls Try.prog 13 #[.pointer (some ⟨g, 0, none⟩), .int .u32 x] w fun e w' => e = .returned (.bool (mostB n x)) ∧ ∃ m, w' = w.drewN m := by
  have hp : pop x ≤ 6 := pop_le (n := 6) hx (by omega)
  obtain ⟨q, hq⟩ : ∃ q, pop x = q := ⟨_, rfl⟩
  have HQ := Lib.hid hq
  rw [hq] at hp
  have HM : Hid (mostB n x = decide ((n : Int) < 2 * (q : Int))) := by
    show mostB n x = _
    rw [mostB, HQ.out]
    exact decide_eq_decide.2 (by omega)
  clear hq
  have hw : IntKind.i64.wrap (2 * (q : Int)) = 2 * (q : Int) := IntWalk.i64_in _ (by omega)
  go_enter Try.func13, Try.ntmps13
  go_wp2
  go_quiet ((go_at_call 14; exact Calls.quiet_of ((ones_any x _ hx).mono fun e w' ⟨h1, h2⟩ => ⟨by rw [h1, HQ.out], 1, h2⟩)))
  go_wp2
  go_ret
  exact ⟨ret_bool HM.out.symm, _, rfl⟩
theorem most_is (b : Bool) (g n x : Nat) (w : World) (hx : x < 64) (hc : w.cell? ⟨g, 0, none⟩ = some (.int .i64 n)) (hb : mostB n x = b) :
    Calls Try.prog 13 #[.pointer (some ⟨g, 0, none⟩), .int .u32 x] w fun e w' => e = .returned (.bool b) ∧ ∃ m, w' = w.drewN m := by rw [← hb]; exact most_any g n x w hx hc
set_option maxRecDepth 100000 in
set_option maxHeartbeats 1600000 in
theorem do_ask (g n : Nat) (s : PS) (gP gT gV : Nat) (C : Value) (i : Nat) (hi : i < n) (b : Nat) (hb1 : 1 ≤ b) (hb9 : b ≤ 9) (t : Int) (w : World) (base : Nat) (hn1 : 1 ≤ n) (hn : n ≤ 6) (hI : PI n s) (h : PxSt w base g n s gP gT gV C) (hbs : base ≤ w.heap.size) (hp : s.P i < b) (hlt : s.be b < s.T i) :
    Calls Try.prog 10 #[.pointer (some ⟨g, 0, none⟩), .agg #[.int .i64 1, .int .i64 i, .int .i64 t, .int .i64 b]] w fun e w' => e = .returned (.int .i64 0) ∧ PxSt w' base g n (askS s i b) gP gT gV C ∧ Kept (Xs g gP gT gV) w w' := by
  have H := Lib.hid h; clear h
  have HI := Lib.hid hI; clear hI
  obtain ⟨c0, _⟩ := H.out.heads
  have hgz := H.out.lt.2
  have HO := Lib.hid (or_pow (a := s.pr b) (m := i) (by have h1 := HI.out.prb b; have h2 := pow64 hn; omega) (by omega))
  have HE : Hid (askS s i b = { s with P := upd s.P i b, pr := upd s.pr b (s.pr b ||| 2 ^ i), be := upd s.be b (s.T i), va := upd s.va b (s.V i) }) := by show _ = _; unfold askS; rw [if_pos hlt, if_pos hlt]
  go_enter Try.func10, Try.ntmps10
  go_wp2
  refine at_world (F := fun W' => Code.wp _ _ _ _ W') (fun W => DoW w W base g n s gP gT gV C 1 i t b) (DoW.made H.out hbs _ _ _ _) ?_
  intro W hW
  have HW := Lib.hid hW
  clear hW c0 hgz
  have m0 := HW.out.m0
  have m3 := HW.out.m3
  obtain ⟨c0, c51, c52, c53, c54, c55⟩ := HW.out.st.heads
  obtain ⟨b0, b1, b2, b3, b4⟩ := HW.out.st.bal (b := b) (by omega)
  have f4 := (HW.out.st.frz (by omega) (1 + b * 5)).1
  have f5 := (HW.out.st.frz (by omega) (1 + b * 5 + 2)).1
  have f6 := (HW.out.st.frz (by omega) (1 + b * 5 + 3)).1
  have f7 := (HW.out.st.frz (by omega) (1 + b * 5 + 1)).1
  have f8 := (HW.out.st.frz (by omega) (1 + b * 5 + 4)).1
  have f9 := (HW.out.st.frz (by omega) 52).1
  obtain ⟨p0, p1, p2⟩ := HW.out.st.rows hi
  obtain ⟨_, f1, f2, f3⟩ := HW.out.st.frz (by omega) i
  refine wp_text_all (by kernel_rfl) (by kernel_rfl) (by kernel_rfl) (by repeat' (first | (with_reducible apply tame_then) | (with_reducible apply tame_block) | (with_reducible apply tame_scope) | exact tame_gives | exact tame_body (fun _ _ h => ⟨_, h.1⟩))) ?_
  go_wp2
  refine headed ?_
  go_wp2
  refine wp_text_all (by kernel_rfl) (by kernel_rfl) (by kernel_rfl) (by repeat' (first | (with_reducible apply tame_then) | (with_reducible apply tame_block) | (with_reducible apply tame_scope) | exact tame_gives | exact tame_body (fun _ _ h => ⟨_, h.1⟩))) ?_
  go_wp2
  refine headed ?_
  go_wp2
  refine wp_text 9 (by kernel_rfl) (by kernel_rfl) (by kernel_rfl) (by repeat' (first | (with_reducible apply tame_then) | (with_reducible apply tame_block) | (with_reducible apply tame_scope) | exact tame_gives | exact tame_body (fun _ _ h => ⟨_, h.1⟩))) ?_
  simp only [List.take_succ_cons, List.take_zero, List.drop_succ_cons, List.drop_zero]
  go_wp2
  refine headed ?_
  go_wp2
  refine at_world (F := fun W' => Code.wp _ _ _ _ W') (fun W => DoW w W base g n { s with P := upd s.P i b } gP gT gV C 1 i t b) ((HW.out.step (.inr (.inl rfl)) (HW.out.st.P_ hi b)).sim ⟨rfl, rfl, rfl, rfl⟩) ?_
  intro W2 hW
  have HW2 := Lib.hid hW
  clear hW
  clear m0 m3 c0 c51 c52 c53 c54 c55 b0 b1 b2 b3 b4 f4 f5 f6 f7 f8 f9
  clear p0 p1 p2 f1 f2 f3
  have m0 := HW2.out.m0
  have m3 := HW2.out.m3
  obtain ⟨c0, c51, c52, c53, c54, c55⟩ := HW2.out.st.heads
  obtain ⟨b0, b1, b2, b3, b4⟩ := HW2.out.st.bal (b := b) (by omega)
  have f4 := (HW2.out.st.frz (by omega) (1 + b * 5)).1
  have f5 := (HW2.out.st.frz (by omega) (1 + b * 5 + 2)).1
  have f6 := (HW2.out.st.frz (by omega) (1 + b * 5 + 3)).1
  have f7 := (HW2.out.st.frz (by omega) (1 + b * 5 + 1)).1
  have f8 := (HW2.out.st.frz (by omega) (1 + b * 5 + 4)).1
  have f9 := (HW2.out.st.frz (by omega) 52).1
  obtain ⟨p0, p1, p2⟩ := HW2.out.st.rows hi
  obtain ⟨_, f1, f2, f3⟩ := HW2.out.st.frz (by omega) i
  refine wp_text 9 (by kernel_rfl) (by kernel_rfl) (by kernel_rfl) (by repeat' (first | (with_reducible apply tame_then) | (with_reducible apply tame_block) | (with_reducible apply tame_scope) | exact tame_gives | exact tame_body (fun _ _ h => ⟨_, h.1⟩))) ?_
  simp only [List.take_succ_cons, List.take_zero, List.drop_succ_cons, List.drop_zero]
  go_wp2
  refine headed ?_
  go_wp2
  refine at_world (F := fun W' => Code.wp _ _ _ _ W') (fun W => DoW w W base g n { s with P := upd s.P i b, pr := upd s.pr b (s.pr b ||| 2 ^ i) } gP gT gV C 1 i t b) ((HW2.out.step (.inl rfl) (by rw [HO.out]; exact HW2.out.st.pr_ (by omega) (s.pr b ||| 2 ^ i))).sim ⟨rfl, rfl, rfl, rfl⟩) ?_
  intro W3 hW
  have HW3 := Lib.hid hW
  clear hW
  clear m0 m3 c0 c51 c52 c53 c54 c55 b0 b1 b2 b3 b4 f4 f5 f6 f7 f8 f9
  clear p0 p1 p2 f1 f2 f3
  have m0 := HW3.out.m0
  have m3 := HW3.out.m3
  obtain ⟨c0, c51, c52, c53, c54, c55⟩ := HW3.out.st.heads
  obtain ⟨b0, b1, b2, b3, b4⟩ := HW3.out.st.bal (b := b) (by omega)
  have f4 := (HW3.out.st.frz (by omega) (1 + b * 5)).1
  have f5 := (HW3.out.st.frz (by omega) (1 + b * 5 + 2)).1
  have f6 := (HW3.out.st.frz (by omega) (1 + b * 5 + 3)).1
  have f7 := (HW3.out.st.frz (by omega) (1 + b * 5 + 1)).1
  have f8 := (HW3.out.st.frz (by omega) (1 + b * 5 + 4)).1
  have f9 := (HW3.out.st.frz (by omega) 52).1
  obtain ⟨p0, p1, p2⟩ := HW3.out.st.rows hi
  obtain ⟨_, f1, f2, f3⟩ := HW3.out.st.frz (by omega) i
  refine wp_text_all (by kernel_rfl) (by kernel_rfl) (by kernel_rfl) (by repeat' (first | (with_reducible apply tame_then) | (with_reducible apply tame_block) | (with_reducible apply tame_scope) | exact tame_gives | exact tame_body (fun _ _ h => ⟨_, h.1⟩))) ?_
  go_wp2
  refine headed ?_
  go_wp2
  go_region
  go_wp2
  go_ret
  refine ⟨rfl, ?_, ?_⟩
  · rw [HE.out]
    exact ((HW3.out.st.be_ (b := b) (by omega) (s.T i)).va_ (b := b) (by omega) (s.V i)).sim ⟨rfl, rfl, rfl, rfl⟩
  · exact ((HW3.out.bel.setCell (p := ⟨g, 1 + b * 5 + 2, none⟩) (.inl (.inl rfl)) (.int .i64 (s.T i : Nat))).setCell (p := ⟨g, 1 + b * 5 + 3, none⟩) (.inl (.inl rfl)) (.int .i64 (s.V i : Nat))).sim ⟨rfl, rfl, rfl, rfl⟩
set_option maxRecDepth 100000 in
set_option maxHeartbeats 1600000 in
theorem do_ask2 (g n : Nat) (s : PS) (gP gT gV : Nat) (C : Value) (i : Nat) (hi : i < n) (b : Nat) (hb1 : 1 ≤ b) (hb9 : b ≤ 9) (t : Int) (w : World) (base : Nat) (hn1 : 1 ≤ n) (hn : n ≤ 6) (hI : PI n s) (h : PxSt w base g n s gP gT gV C) (hbs : base ≤ w.heap.size) (hp : s.P i < b) (hlt : ¬ s.be b < s.T i) :
    Calls Try.prog 10 #[.pointer (some ⟨g, 0, none⟩), .agg #[.int .i64 1, .int .i64 i, .int .i64 t, .int .i64 b]] w fun e w' => e = .returned (.int .i64 0) ∧ PxSt w' base g n (askS s i b) gP gT gV C ∧ Kept (Xs g gP gT gV) w w' := by
  have H := Lib.hid h; clear h
  have HI := Lib.hid hI; clear hI
  obtain ⟨c0, _⟩ := H.out.heads
  have hgz := H.out.lt.2
  have HO := Lib.hid (or_pow (a := s.pr b) (m := i) (by have h1 := HI.out.prb b; have h2 := pow64 hn; omega) (by omega))
  have HE : Hid (askS s i b = { s with P := upd s.P i b, pr := upd s.pr b (s.pr b ||| 2 ^ i) }) := by show _ = _; unfold askS; rw [if_neg hlt, if_neg hlt]
  go_enter Try.func10, Try.ntmps10
  go_wp2
  refine at_world (F := fun W' => Code.wp _ _ _ _ W') (fun W => DoW w W base g n s gP gT gV C 1 i t b) (DoW.made H.out hbs _ _ _ _) ?_
  intro W hW
  have HW := Lib.hid hW
  clear hW c0 hgz
  have m0 := HW.out.m0
  have m3 := HW.out.m3
  obtain ⟨c0, c51, c52, c53, c54, c55⟩ := HW.out.st.heads
  obtain ⟨b0, b1, b2, b3, b4⟩ := HW.out.st.bal (b := b) (by omega)
  have f4 := (HW.out.st.frz (by omega) (1 + b * 5)).1
  have f5 := (HW.out.st.frz (by omega) (1 + b * 5 + 2)).1
  have f6 := (HW.out.st.frz (by omega) (1 + b * 5 + 3)).1
  have f7 := (HW.out.st.frz (by omega) (1 + b * 5 + 1)).1
  have f8 := (HW.out.st.frz (by omega) (1 + b * 5 + 4)).1
  have f9 := (HW.out.st.frz (by omega) 52).1
  obtain ⟨p0, p1, p2⟩ := HW.out.st.rows hi
  obtain ⟨_, f1, f2, f3⟩ := HW.out.st.frz (by omega) i
  refine wp_text_all (by kernel_rfl) (by kernel_rfl) (by kernel_rfl) (by repeat' (first | (with_reducible apply tame_then) | (with_reducible apply tame_block) | (with_reducible apply tame_scope) | exact tame_gives | exact tame_body (fun _ _ h => ⟨_, h.1⟩))) ?_
  go_wp2
  refine headed ?_
  go_wp2
  refine wp_text_all (by kernel_rfl) (by kernel_rfl) (by kernel_rfl) (by repeat' (first | (with_reducible apply tame_then) | (with_reducible apply tame_block) | (with_reducible apply tame_scope) | exact tame_gives | exact tame_body (fun _ _ h => ⟨_, h.1⟩))) ?_
  go_wp2
  refine headed ?_
  go_wp2
  refine wp_text 9 (by kernel_rfl) (by kernel_rfl) (by kernel_rfl) (by repeat' (first | (with_reducible apply tame_then) | (with_reducible apply tame_block) | (with_reducible apply tame_scope) | exact tame_gives | exact tame_body (fun _ _ h => ⟨_, h.1⟩))) ?_
  simp only [List.take_succ_cons, List.take_zero, List.drop_succ_cons, List.drop_zero]
  go_wp2
  refine headed ?_
  go_wp2
  refine at_world (F := fun W' => Code.wp _ _ _ _ W') (fun W => DoW w W base g n { s with P := upd s.P i b } gP gT gV C 1 i t b) ((HW.out.step (.inr (.inl rfl)) (HW.out.st.P_ hi b)).sim ⟨rfl, rfl, rfl, rfl⟩) ?_
  intro W2 hW
  have HW2 := Lib.hid hW
  clear hW
  clear m0 m3 c0 c51 c52 c53 c54 c55 b0 b1 b2 b3 b4 f4 f5 f6 f7 f8 f9
  clear p0 p1 p2 f1 f2 f3
  have m0 := HW2.out.m0
  have m3 := HW2.out.m3
  obtain ⟨c0, c51, c52, c53, c54, c55⟩ := HW2.out.st.heads
  obtain ⟨b0, b1, b2, b3, b4⟩ := HW2.out.st.bal (b := b) (by omega)
  have f4 := (HW2.out.st.frz (by omega) (1 + b * 5)).1
  have f5 := (HW2.out.st.frz (by omega) (1 + b * 5 + 2)).1
  have f6 := (HW2.out.st.frz (by omega) (1 + b * 5 + 3)).1
  have f7 := (HW2.out.st.frz (by omega) (1 + b * 5 + 1)).1
  have f8 := (HW2.out.st.frz (by omega) (1 + b * 5 + 4)).1
  have f9 := (HW2.out.st.frz (by omega) 52).1
  obtain ⟨p0, p1, p2⟩ := HW2.out.st.rows hi
  obtain ⟨_, f1, f2, f3⟩ := HW2.out.st.frz (by omega) i
  refine wp_text 9 (by kernel_rfl) (by kernel_rfl) (by kernel_rfl) (by repeat' (first | (with_reducible apply tame_then) | (with_reducible apply tame_block) | (with_reducible apply tame_scope) | exact tame_gives | exact tame_body (fun _ _ h => ⟨_, h.1⟩))) ?_
  simp only [List.take_succ_cons, List.take_zero, List.drop_succ_cons, List.drop_zero]
  go_wp2
  refine headed ?_
  go_wp2
  refine at_world (F := fun W' => Code.wp _ _ _ _ W') (fun W => DoW w W base g n { s with P := upd s.P i b, pr := upd s.pr b (s.pr b ||| 2 ^ i) } gP gT gV C 1 i t b) ((HW2.out.step (.inl rfl) (by rw [HO.out]; exact HW2.out.st.pr_ (by omega) (s.pr b ||| 2 ^ i))).sim ⟨rfl, rfl, rfl, rfl⟩) ?_
  intro W3 hW
  have HW3 := Lib.hid hW
  clear hW
  clear m0 m3 c0 c51 c52 c53 c54 c55 b0 b1 b2 b3 b4 f4 f5 f6 f7 f8 f9
  clear p0 p1 p2 f1 f2 f3
  have m0 := HW3.out.m0
  have m3 := HW3.out.m3
  obtain ⟨c0, c51, c52, c53, c54, c55⟩ := HW3.out.st.heads
  obtain ⟨b0, b1, b2, b3, b4⟩ := HW3.out.st.bal (b := b) (by omega)
  have f4 := (HW3.out.st.frz (by omega) (1 + b * 5)).1
  have f5 := (HW3.out.st.frz (by omega) (1 + b * 5 + 2)).1
  have f6 := (HW3.out.st.frz (by omega) (1 + b * 5 + 3)).1
  have f7 := (HW3.out.st.frz (by omega) (1 + b * 5 + 1)).1
  have f8 := (HW3.out.st.frz (by omega) (1 + b * 5 + 4)).1
  have f9 := (HW3.out.st.frz (by omega) 52).1
  obtain ⟨p0, p1, p2⟩ := HW3.out.st.rows hi
  obtain ⟨_, f1, f2, f3⟩ := HW3.out.st.frz (by omega) i
  refine wp_text_all (by kernel_rfl) (by kernel_rfl) (by kernel_rfl) (by repeat' (first | (with_reducible apply tame_then) | (with_reducible apply tame_block) | (with_reducible apply tame_scope) | exact tame_gives | exact tame_body (fun _ _ h => ⟨_, h.1⟩))) ?_
  go_wp2
  refine headed ?_
  go_wp2
  go_ret
  exact ⟨rfl, by rw [HE.out]; exact HW3.out.st.sim ⟨rfl, rfl, rfl, rfl⟩, HW3.out.bel.sim ⟨rfl, rfl, rfl, rfl⟩⟩
set_option maxRecDepth 100000 in
set_option maxHeartbeats 1600000 in
theorem do_old (g n : Nat) (s : PS) (gP gT gV : Nat) (C : Value) (i : Nat) (hi : i < n) (b : Nat) (hb1 : 1 ≤ b) (hb9 : b ≤ 9) (t : Int) (w : World) (base : Nat) (hn1 : 1 ≤ n) (hn : n ≤ 6) (hI : PI n s) (h : PxSt w base g n s gP gT gV C) (hbs : base ≤ w.heap.size) (hp : b ≤ s.P i) :
    Calls Try.prog 10 #[.pointer (some ⟨g, 0, none⟩), .agg #[.int .i64 1, .int .i64 i, .int .i64 t, .int .i64 b]] w fun e w' => e = .returned (.int .i64 8) ∧ PxSt w' base g n s gP gT gV C ∧ Kept (Xs g gP gT gV) w w' := by
  have H := Lib.hid h; clear h
  have HI := Lib.hid hI; clear hI
  obtain ⟨c0, _⟩ := H.out.heads
  have hgz := H.out.lt.2
  go_enter Try.func10, Try.ntmps10
  go_wp2
  refine at_world (F := fun W' => Code.wp _ _ _ _ W') (fun W => DoW w W base g n s gP gT gV C 1 i t b) (DoW.made H.out hbs _ _ _ _) ?_
  intro W hW
  have HW := Lib.hid hW
  clear hW c0 hgz
  have m0 := HW.out.m0
  have m3 := HW.out.m3
  obtain ⟨c0, c51, c52, c53, c54, c55⟩ := HW.out.st.heads
  obtain ⟨b0, b1, b2, b3, b4⟩ := HW.out.st.bal (b := b) (by omega)
  have f4 := (HW.out.st.frz (by omega) (1 + b * 5)).1
  have f5 := (HW.out.st.frz (by omega) (1 + b * 5 + 2)).1
  have f6 := (HW.out.st.frz (by omega) (1 + b * 5 + 3)).1
  have f7 := (HW.out.st.frz (by omega) (1 + b * 5 + 1)).1
  have f8 := (HW.out.st.frz (by omega) (1 + b * 5 + 4)).1
  have f9 := (HW.out.st.frz (by omega) 52).1
  obtain ⟨p0, p1, p2⟩ := HW.out.st.rows hi
  obtain ⟨_, f1, f2, f3⟩ := HW.out.st.frz (by omega) i
  refine wp_text_all (by kernel_rfl) (by kernel_rfl) (by kernel_rfl) (by repeat' (first | (with_reducible apply tame_then) | (with_reducible apply tame_block) | (with_reducible apply tame_scope) | exact tame_gives | exact tame_body (fun _ _ h => ⟨_, h.1⟩))) ?_
  go_wp2
  refine headed ?_
  go_wp2
  refine wp_text_all (by kernel_rfl) (by kernel_rfl) (by kernel_rfl) (by repeat' (first | (with_reducible apply tame_then) | (with_reducible apply tame_block) | (with_reducible apply tame_scope) | exact tame_gives | exact tame_body (fun _ _ h => ⟨_, h.1⟩))) ?_
  go_wp2
  refine headed ?_
  go_wp2
  go_ret
  exact ⟨rfl, HW.out.st.sim ⟨rfl, rfl, rfl, rfl⟩, HW.out.bel.sim ⟨rfl, rfl, rfl, rfl⟩⟩
end Go.Proofs.Ytpicmphimcgklaa
