/- causal.Play, for the laws. -/
import Derived.Test.YtiljnddjecbmfaaCa4
import Derived.Test.YtiljnddjecbmfaaPlayed
set_option linter.unusedVariables false
set_option linter.unusedSimpArgs false
namespace Go.Proofs.Ytiljnddjecbmfaa
open Go.RowKit Go.Maps Go.MapKept

abbrev heardB : Value := .agg #[.slice none 0 0, .slice none 0 0]
set_option maxRecDepth 100000 in
set_option maxHeartbeats 1600000 in
theorem ca_bad (n : Int) (m cap : Nat) (A : Option Addr) (w : World) (hm : m ≤ maxLen) (hb : playedB n m = false) :
    Calls Try.prog 6 #[.int .i64 n, .slice A m cap] w fun e w' => e = .returned (.tuple #[heardB, .int .i64 1]) ∧ Below w.heap.size w w' := by
  unfold maxLen at hm
  have h' : n < 1 ∨ 6 < n ∨ 60 < (m : Int) := by
    have : ¬ (1 ≤ n ∧ n ≤ 6 ∧ (m : Int) ≤ 60) := fun h => by rw [playedB_iff.2 h] at hb; cases hb
    omega
  clear hb
  go_enter Try.func6, Try.ntmps6
  go_wp2_with fail
  all_goals first
    | (exfalso; omega)
    | ((try simp only [Exit.inBlock, Exit.then]); refine bodyPost_ret (v := .tuple #[heardB, .int .i64 1]) (by simp [results, Try.results6, go_sem]) rfl ?_; exact ⟨rfl, (Below.refl _ _).alloc (Nat.le_refl _) _⟩)
/-- Whatever it is. -/
theorem ca_shape (n : Int) (m cap : Nat) (A : Option Addr) (M : Mv) (w : World) (hm : m ≤ maxLen) (hr : Rd w w.heap.size A (m * 4) (mvF M)) :
    Calls Try.prog 6 #[.int .i64 n, .slice A m cap] w fun e w' => ∃ (A1 : Option Addr) (n1 c1 : Nat) (A2 : Option Addr) (n2 c2 : Nat) (c : Int), e = .returned (.tuple #[.agg #[.slice A1 n1 c1, .slice A2 n2 c2], .int .i64 c]) ∧ Below w.heap.size w w' := by
  cases hb : playedB n m
  · exact (ca_bad n m cap A w hm hb).mono fun e w' ⟨h1, h2⟩ => ⟨none, 0, 0, none, 0, 0, 1, h1, h2⟩
  · obtain ⟨h1, h2, h3⟩ := playedB_iff.1 hb
    obtain ⟨n, rfl⟩ := Int.eq_ofNat_of_zero_le (show 0 ≤ n by omega)
    refine (ca_good n w m cap _ A M (by omega) (by omega) (by omega) (Nat.le_refl _) hr).mono fun e w' hG => ?_
    obtain ⟨v, rfl, g, cl, gt, gc, cc, gm, cm, AL, bc, f, AC2, cC, rfl, br, hL⟩ := hG
    exact ⟨AC2, m, cC, some ⟨gt, 0, none⟩, n, n, 0, rfl, hL.lay.bel⟩
theorem told_tell (i k : Nat) (s : CaS) (p : Nat) : s.told p <+: (tellC i k s).told p := by
  show _ <+: upd s.told i (s.told i ++ [k]) p
  rw [upd_apply]; split
  · rename_i e; subst e; exact List.prefix_append _ _
  · exact List.prefix_refl _
theorem told_settle {n i : Nat} (p : Nat) : ∀ (f : Nat) (s : CaS), s.told p <+: (settleC n i f s).told p
  | 0, s => List.prefix_refl _
  | f + 1, s => by
    rw [settleC]
    split
    · exact List.prefix_refl _
    · rename_i k hk
      exact (told_tell i k s p).trans (told_settle p f _)
theorem told_step (n : Nat) (k f t v : Int) (s : CaS) (p : Nat) : s.told p <+: (caStep n k f t v s).2.told p := by
  unfold caStep
  split
  · split
    · exact told_tell _ _ (newC f.toNat s) p
    · exact List.prefix_refl _
  · split
    · split
      · split
        · split
          · exact List.prefix_refl _
          · exact told_settle p _ (markC t.toNat v.toNat s)
        · exact List.prefix_refl _
      · exact List.prefix_refl _
    · exact List.prefix_refl _
theorem told_le (n : Nat) (M : Mv) (p i : Nat) : ∀ d, (caE n M i).told p <+: (caE n M (i + d)).told p
  | 0 => List.prefix_refl _
  | d + 1 => (told_le n M p i d).trans (told_step n _ _ _ _ _ p)
/-- A told list, read. -/
theorem told_rd {g cl gt gc cc gm cm n : Nat} {AL : Option Addr} {bc : Nat → Nat} {R : List LRow} {w0 w : World} {f : FC → Value} {s : CaS} (h : LayC g cl gt gc cc gm cm n AL bc R w0 f s w) {i : Nat} (hi : i < n) : ∃ A cap, w.cell? ⟨gt, i, none⟩ = some (.slice A (s.told i).length cap) ∧ (s.told i).length ≤ cap ∧ cap ≤ maxLen ∧ Rd w w.heap.size A (s.told i).length (fun j => .int .i64 (((s.told i)[j]?.getD 0 : Nat) : Int)) := by
  obtain ⟨A, cap, hf, h1, h2, h3⟩ := ca_told h hi
  have hq := h.own (.inl (.inl i))
  rw [hf] at hq
  exact ⟨A, cap, h3, h1, h2, qsl_rd (l := s.told i) rfl hq⟩
end Go.Proofs.Ytiljnddjecbmfaa
