/- The walk of paxos' moves: offers, takes, refusals. -/
import Derived.Test.YtpicmphimcgklaaPax1
set_option linter.unusedVariables false
set_option linter.unusedSimpArgs false
namespace Go.Proofs.Ytpicmphimcgklaa
open Go.RowKit

set_option maxRecDepth 100000 in
set_option maxHeartbeats 1600000 in
theorem do_kind (g n : Nat) (s : PS) (gP gT gV : Nat) (C : Value) (k : Int) (f : Int) (v : Int) (t : Int) (w : World) (base : Nat) (hn1 : 1 ≤ n) (hn : n ≤ 6) (hI : PI n s) (h : PxSt w base g n s gP gT gV C) (hbs : base ≤ w.heap.size) (hk : k < 1 ∨ 3 < k) :
    Calls Try.prog 10 #[.pointer (some ⟨g, 0, none⟩), .agg #[.int .i64 k, .int .i64 f, .int .i64 t, .int .i64 v]] w fun e w' => e = .returned (.int .i64 6) ∧ PxSt w' base g n s gP gT gV C ∧ Kept (Xs g gP gT gV) w w' := by
  have H := Lib.hid h; clear h
  have HI := Lib.hid hI; clear hI
  obtain ⟨c0, _⟩ := H.out.heads
  have hgz := H.out.lt.2
  rcases hk with hk | hk
  all_goals
    go_enter Try.func10, Try.ntmps10
    go_wp2
    go_ret
    exact ⟨rfl, H.out.alloc _, (Kept.refl _ w).alloc _⟩
set_option maxRecDepth 100000 in
set_option maxHeartbeats 1600000 in
theorem do_arg (g n : Nat) (s : PS) (gP gT gV : Nat) (C : Value) (k : Int) (f : Int) (v : Int) (t : Int) (w : World) (base : Nat) (hn1 : 1 ≤ n) (hn : n ≤ 6) (hI : PI n s) (h : PxSt w base g n s gP gT gV C) (hbs : base ≤ w.heap.size) (hk : k = 1 ∨ k = 3) (hf : f < 0 ∨ (n : Int) ≤ f) :
    Calls Try.prog 10 #[.pointer (some ⟨g, 0, none⟩), .agg #[.int .i64 k, .int .i64 f, .int .i64 t, .int .i64 v]] w fun e w' => e = .returned (.int .i64 2) ∧ PxSt w' base g n s gP gT gV C ∧ Kept (Xs g gP gT gV) w w' := by
  have H := Lib.hid h; clear h
  have HI := Lib.hid hI; clear hI
  obtain ⟨c0, _⟩ := H.out.heads
  have hgz := H.out.lt.2
  rcases hk with rfl | rfl
  all_goals
    rcases hf with hf | hf
    all_goals
      go_enter Try.func10, Try.ntmps10
      go_wp2
      go_ret
      exact ⟨rfl, H.out.alloc _, (Kept.refl _ w).alloc _⟩
set_option maxRecDepth 100000 in
set_option maxHeartbeats 1600000 in
theorem do_range (g n : Nat) (s : PS) (gP gT gV : Nat) (C : Value) (k : Int) (f : Int) (v : Int) (t : Int) (w : World) (base : Nat) (hn1 : 1 ≤ n) (hn : n ≤ 6) (hI : PI n s) (h : PxSt w base g n s gP gT gV C) (hbs : base ≤ w.heap.size) (hk : k = 2 ∨ ((k = 1 ∨ k = 3) ∧ 0 ≤ f ∧ f < n)) (hv : v < 1 ∨ 9 < v) :
    Calls Try.prog 10 #[.pointer (some ⟨g, 0, none⟩), .agg #[.int .i64 k, .int .i64 f, .int .i64 t, .int .i64 v]] w fun e w' => e = .returned (.int .i64 4) ∧ PxSt w' base g n s gP gT gV C ∧ Kept (Xs g gP gT gV) w w' := by
  have H := Lib.hid h; clear h
  have HI := Lib.hid hI; clear hI
  obtain ⟨c0, _⟩ := H.out.heads
  have hgz := H.out.lt.2
  rcases hk with rfl | ⟨rfl | rfl, hf0, hf1⟩
  all_goals
    rcases hv with hv | hv
    all_goals
      go_enter Try.func10, Try.ntmps10
      go_wp2
      go_ret
      exact ⟨rfl, H.out.alloc _, (Kept.refl _ w).alloc _⟩
set_option maxRecDepth 100000 in
set_option maxHeartbeats 1600000 in
theorem do_hold (g n : Nat) (s : PS) (gP gT gV : Nat) (C : Value) (f : Int) (b : Nat) (hb1 : 1 ≤ b) (hb9 : b ≤ 9) (t : Int) (w : World) (base : Nat) (hn1 : 1 ≤ n) (hn : n ≤ 6) (hI : PI n s) (h : PxSt w base g n s gP gT gV C) (hbs : base ≤ w.heap.size) (ho : 0 < s.of b) :
    Calls Try.prog 10 #[.pointer (some ⟨g, 0, none⟩), .agg #[.int .i64 2, .int .i64 f, .int .i64 t, .int .i64 b]] w fun e w' => e = .returned (.int .i64 7) ∧ PxSt w' base g n s gP gT gV C ∧ Kept (Xs g gP gT gV) w w' := by
  have H := Lib.hid h; clear h
  have HI := Lib.hid hI; clear hI
  obtain ⟨c0, _⟩ := H.out.heads
  have hgz := H.out.lt.2
  go_enter Try.func10, Try.ntmps10
  go_wp2
  refine at_world (F := fun W' => Code.wp _ _ _ _ W') (fun W => DoW w W base g n s gP gT gV C 2 f t b) (DoW.made H.out hbs _ _ _ _) ?_
  intro W hW
  have HW := Lib.hid hW
  clear hW c0 hgz
  have m0 := HW.out.m0
  have m3 := HW.out.m3
  obtain ⟨c0, c51, c52, c53, c54, c55⟩ := HW.out.st.heads
  obtain ⟨b0, b1, b2, b3, b4⟩ := HW.out.st.bal (b := b) (by omega)
  have f4 := (HW.out.st.frz (by omega) (1 + b * 5)).1
  have f5 := (HW.out.st.frz (by omega) (1 + b * 5 + 2)).1
  have f6 := (HW.out.st.frz (by omega) (1 + b * 5 + 3)).1
  have f7 := (HW.out.st.frz (by omega) (1 + b * 5 + 1)).1
  have f8 := (HW.out.st.frz (by omega) (1 + b * 5 + 4)).1
  have f9 := (HW.out.st.frz (by omega) 52).1
  refine wp_text_all (by kernel_rfl) (by kernel_rfl) (by kernel_rfl) (by repeat' (first | (with_reducible apply tame_then) | (with_reducible apply tame_block) | (with_reducible apply tame_scope) | exact tame_gives | exact tame_body (fun _ _ h => ⟨_, h.1⟩))) ?_
  go_wp2
  refine headed ?_
  go_wp2
  go_ret
  exact ⟨rfl, HW.out.st.sim ⟨rfl, rfl, rfl, rfl⟩, HW.out.bel.sim ⟨rfl, rfl, rfl, rfl⟩⟩
set_option maxRecDepth 100000 in
set_option maxHeartbeats 1600000 in
theorem do_few (g n : Nat) (s : PS) (gP gT gV : Nat) (C : Value) (f : Int) (b : Nat) (hb1 : 1 ≤ b) (hb9 : b ≤ 9) (t : Int) (w : World) (base : Nat) (hn1 : 1 ≤ n) (hn : n ≤ 6) (hI : PI n s) (h : PxSt w base g n s gP gT gV C) (hbs : base ≤ w.heap.size) (ho : s.of b = 0) (hm : mostB n (s.pr b) = false) :
    Calls Try.prog 10 #[.pointer (some ⟨g, 0, none⟩), .agg #[.int .i64 2, .int .i64 f, .int .i64 t, .int .i64 b]] w fun e w' => e = .returned (.int .i64 5) ∧ PxSt w' base g n s gP gT gV C ∧ Kept (Xs g gP gT gV) w w' := by
  have H := Lib.hid h; clear h
  have HI := Lib.hid hI; clear hI
  obtain ⟨c0, _⟩ := H.out.heads
  have hgz := H.out.lt.2
  have HM := Lib.hid hm; clear hm
  have HO := Lib.hid ho; clear ho
  go_enter Try.func10, Try.ntmps10
  go_wp2
  refine at_world (F := fun W' => Code.wp _ _ _ _ W') (fun W => DoW w W base g n s gP gT gV C 2 f t b) (DoW.made H.out hbs _ _ _ _) ?_
  intro W hW
  have HW := Lib.hid hW
  clear hW c0 hgz
  have m0 := HW.out.m0
  have m3 := HW.out.m3
  obtain ⟨c0, c51, c52, c53, c54, c55⟩ := HW.out.st.heads
  obtain ⟨b0, b1, b2, b3, b4⟩ := HW.out.st.bal (b := b) (by omega)
  have f4 := (HW.out.st.frz (by omega) (1 + b * 5)).1
  have f5 := (HW.out.st.frz (by omega) (1 + b * 5 + 2)).1
  have f6 := (HW.out.st.frz (by omega) (1 + b * 5 + 3)).1
  have f7 := (HW.out.st.frz (by omega) (1 + b * 5 + 1)).1
  have f8 := (HW.out.st.frz (by omega) (1 + b * 5 + 4)).1
  have f9 := (HW.out.st.frz (by omega) 52).1
  rw [HO.out] at b4
  have c0d : W.drew.cell? ⟨g, 0, none⟩ = some (.int .i64 n) := c0
  have HC := Lib.hid c0d; clear c0d
  refine wp_text_all (by kernel_rfl) (by kernel_rfl) (by kernel_rfl) (by repeat' (first | (with_reducible apply tame_then) | (with_reducible apply tame_block) | (with_reducible apply tame_scope) | exact tame_gives | exact tame_body (fun _ _ h => ⟨_, h.1⟩))) ?_
  go_wp2
  refine headed ?_
  go_wp2_with (go_at_call 13; refine (most_is _ g n _ _ (by have h1 := HI.out.prb b; have h2 := pow64 hn; omega) HC.out HM.out).mono ?_; rintro e w1 ⟨rfl, nm, rfl⟩)
  go_ret
  exact ⟨rfl, HW.out.st.sim ⟨rfl, rfl, rfl, rfl⟩, HW.out.bel.sim ⟨rfl, rfl, rfl, rfl⟩⟩
end Go.Proofs.Ytpicmphimcgklaa
