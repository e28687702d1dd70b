/- snap.Play, for the laws. -/
import Derived.Test.YtfcgjmekeonemaaSn4
import Derived.Test.YtfcgjmekeonemaaPlayed
set_option linter.unusedVariables false
set_option linter.unusedSimpArgs false
namespace Go.Proofs.Ytfcgjmekeonemaa
open Go.RowKit Go.Maps Go.MapKept

set_option maxRecDepth 100000 in
set_option maxHeartbeats 1600000 in
theorem sn_bad (n : Int) (m cap : Nat) (A : Option Addr) (w : World) (hm : m ≤ maxLen) (hb : playedB n m = false) :
    Calls Try.prog 11 #[.int .i64 n, .slice A m cap] w fun e w' => e = .returned (.tuple #[.agg #[.slice none 0 0, .bool false, .slice none 0 0, .slice none 0 0], .int .i64 1]) ∧ Below w.heap.size w w' := by
  unfold maxLen at hm
  have h' : n < 1 ∨ 6 < n ∨ 60 < (m : Int) := by
    have : ¬ (1 ≤ n ∧ n ≤ 6 ∧ (m : Int) ≤ 60) := fun h => by rw [playedB_iff.2 h] at hb; cases hb
    omega
  clear hb
  go_enter Try.func11, Try.ntmps11
  go_wp2
  all_goals first
    | (exfalso; omega)
    | ((try simp only [Exit.inBlock, Exit.then]); refine bodyPost_ret (v := .tuple #[.agg #[.slice none 0 0, .bool false, .slice none 0 0, .slice none 0 0], .int .i64 1]) (by simp [results, Try.results11, go_sem]) rfl ?_; exact ⟨rfl, (Below.refl _ _).alloc (Nat.le_refl _) _⟩)
/-- With the codes alone. -/
theorem sn_short (n m cap B : Nat) (A : Option Addr) (M : Mv) (w : World) (hn1 : 1 ≤ n) (hn : n ≤ 6) (hm : m ≤ 60) (hB : B ≤ w.heap.size) (hr : Rd w B A (m * 4) (mvF M)) :
    Calls Try.prog 11 #[.int .i64 n, .slice A m cap] w (Gives fun v w' => ∃ AC cC, ∃ gk gw : Nat, v = .tuple #[.agg #[.slice AC m cC, .bool (snDone n (snE n M m)), .slice (some ⟨gk, 0, none⟩) n n, .slice (some ⟨gw, 0, none⟩) n n], .int .i64 0] ∧
      Lay w w' [lstE AC m cC (snC n M)]) := by
  refine (sn_good n w m cap B A M hn1 hn hm hB hr).mono ?_
  rintro e w' ⟨v, he, g, gh, gr, gk, gw, bm, bc, br, f, AC, cC, hv, hL⟩
  exact ⟨v, he, AC, cC, gk, gw, hv, hL.lay.perm [5] (by decide) rfl⟩
/-- All is recorded. -/
theorem cnt_iff {n : Nat} {c : Nat × Nat → Bool} (hc : ∀ p, c p = true → p.1 < n ∧ p.2 < n ∧ p.1 ≠ p.2) (hn : n ≤ 6) : ((cntC n c : Int) = n * (n - 1)) ↔ ∀ i j, i < n → j < n → i ≠ j → c (i, j) = true := by
  have hlen : ((waysN n).length : Int) = n * (n - 1) := by
    rcases (show n = 0 ∨ n = 1 ∨ n = 2 ∨ n = 3 ∨ n = 4 ∨ n = 5 ∨ n = 6 by omega) with h | h | h | h | h | h | h <;> subst h <;> decide
  have hnw : (waysN n).Nodup := List.Pairwise.filter _ (pairs_nodup n)
  have hnf : ((pairs n).filter c).Nodup := List.Pairwise.filter _ (pairs_nodup n)
  have hmem : ∀ p : Nat × Nat, p ∈ waysN n ↔ p.1 < n ∧ p.2 < n ∧ p.1 ≠ p.2 := fun p => by
    unfold waysN
    rw [List.mem_filter, mem_pairs, bne_iff_ne]
    exact and_assoc
  have hsub : (pairs n).filter c ⊆ waysN n := fun p hp => (hmem p).2 (hc p (List.mem_filter.1 hp).2)
  have hle := hnf.length_le_of_subset hsub
  have hcn : cntC n c = ((pairs n).filter c).length := rfl
  rw [← hlen]
  constructor
  · intro h i j hi hj hij
    have hw : (i, j) ∈ waysN n := (hmem _).2 ⟨hi, hj, hij⟩
    cases hcv : c (i, j) with
    | true => rfl
    | false =>
      have h2 : (pairs n).filter c ⊆ (waysN n).erase (i, j) := fun p hp => by
        have hp2 : p ≠ (i, j) := fun e => by
          have := (List.mem_filter.1 hp).2
          rw [e, hcv] at this
          cases this
        exact (List.mem_erase_of_ne hp2).2 (hsub hp)
      have h3 := hnf.length_le_of_subset h2
      have h4 := List.length_erase_of_mem hw
      have h5 := List.length_pos_of_mem hw
      omega
  · intro h
    have h2 : waysN n ⊆ (pairs n).filter c := fun p hp => by
      obtain ⟨h1, h3, h4⟩ := (hmem p).1 hp
      exact List.mem_filter.2 ⟨mem_pairs.2 ⟨h1, h3⟩, h p.1 p.2 h1 h3 h4⟩
    have := hnw.length_le_of_subset h2
    omega
theorem done_iff {n : Nat} {s : SN} (h : SJ n s) (hn : n ≤ 6) : snDone n s = true ↔ (∀ i j, i < n → j < n → i ≠ j → s.closed (i, j) = true) ∧ ∀ i, i < n → s.rec_ i = true := by
  unfold snDone
  rw [Bool.and_eq_true, decide_eq_true_iff, cnt_iff (fun p hp => by obtain ⟨h1, h2, h3, _⟩ := h.cl p hp; exact ⟨h1, h2, h3⟩) hn, List.all_eq_true]
  exact and_congr Iff.rfl ⟨fun h i hi => h i (List.mem_range.2 hi), fun h i hi => h i (List.mem_range.1 hi)⟩
theorem recS_rec (n i : Nat) (s : SN) {j : Nat} (h : s.rec_ j = true) : (recS n i s).rec_ j = true := by
  unfold recS
  split
  · exact h
  · show upd s.rec_ i true j = true
    rw [upd_apply]; split
    · rfl
    · exact h
/-- What is recorded or closed stays so. -/
theorem sn_stays {n : Nat} {k f t v : Int} {s : SN} : (∀ i, s.rec_ i = true → (snStep n k f t v s).2.rec_ i = true) ∧ ∀ p, s.closed p = true → (snStep n k f t v s).2.closed p = true := by
  unfold snStep
  split
  · exact ⟨fun _ h => h, fun _ h => h⟩
  split
  · exact ⟨fun _ h => h, fun _ h => h⟩
  split
  · unfold takeN
    split
    · exact ⟨fun _ h => h, fun _ h => h⟩
    · rename_i x l _
      unfold takeT
      split
      · refine ⟨fun i h => recS_rec n t.toNat _ h, fun p h => ?_⟩
        show qput s.closed (f.toNat, t.toNat) true p = true
        rw [qput_at]; split
        · rfl
        · exact h
      · exact ⟨fun _ h => h, fun _ h => h⟩
  split
  · split
    · exact ⟨fun _ h => h, fun _ h => h⟩
    · exact ⟨fun i h => recS_rec n _ s h, fun p h => by show (recS n _ s).closed p = true; rw [recS_closed]; exact h⟩
  split
  · exact ⟨fun _ h => h, fun _ h => h⟩
  · exact ⟨fun _ h => h, fun _ h => h⟩
theorem snE_stays (n : Nat) (M : Mv) (i : Nat) : ∀ d, (∀ j, (snE n M i).rec_ j = true → (snE n M (i + d)).rec_ j = true) ∧ ∀ p, (snE n M i).closed p = true → (snE n M (i + d)).closed p = true
  | 0 => ⟨fun _ h => h, fun _ h => h⟩
  | d + 1 => by
    obtain ⟨h1, h2⟩ := snE_stays n M i d
    exact ⟨fun j h => sn_stays.1 j (h1 j h), fun p h => sn_stays.2 p (h2 p h)⟩
theorem done_stays {n : Nat} (hn : n ≤ 6) (M : Mv) {i m : Nat} (him : i ≤ m) (h : snDone n (snE n M i) = true) : snDone n (snE n M m) = true := by
  obtain ⟨h1, h2⟩ := (done_iff (snE_J n M i) hn).1 h
  obtain ⟨h3, h4⟩ := snE_stays n M i (m - i)
  rw [show i + (m - i) = m by omega] at h3 h4
  exact (done_iff (snE_J n M m) hn).2 ⟨fun a b ha hb hab => h4 _ (h1 a b ha hb hab), fun a ha => h3 a (h2 a ha)⟩
end Go.Proofs.Ytfcgjmekeonemaa
