/- The law SuspectSure, walked. -/
import Derived.Test.YtcipdjdbafngkaaSuspectFew
set_option linter.unusedVariables false
set_option linter.unusedSimpArgs false
namespace Go.Proofs.Ytcipdjdbafngkaa
open Go.RowKit

/-- The list that is made. -/
structure GS (w wr : World) (A : Option Addr) (q cap : Nat) (M : Mv) : Prop where
  own : Own wr w.heap.size 37 4 A q cap (mvF M)
  bel : Below w.heap.size w wr
theorem GS.app {w wr w2 : World} {A A2 : Option Addr} {q cap cap2 k : Nat} {M M2 : Mv} {o : Obj} (h : GS w wr A q cap M) (hg : (wr.alloc o).grownBy w2 (ablock A)) (ho : Own w2 w.heap.size 37 4 A2 k cap2 (mvF M2)) : GS w w2 A2 k cap2 M2 :=
  ⟨ho, (h.bel.alloc h.bel.size o).grown hg (by have := h.bel.size; simp; omega) (fun k hk => (h.own.lt k hk).1)⟩
abbrev Z0 : Mv := ⟨fun _ => 0, fun _ => 0, fun _ => 0, fun _ => 0⟩
theorem app_zero (M : Mv) (j : Nat) : (Z0.app 0 M).k j = M.k j ∧ (Z0.app 0 M).f j = M.f j := by
  have := app_new Z0 0 M j
  rw [Nat.zero_add] at this
  exact ⟨this.1, this.2.1⟩

theorem sus_last {n : Nat} (hn : n ≤ 6) {M1 : Mv} {q : Nat} {i : Int} (hall : (suE n M1 q).set = 2 ^ n - 1) :
    ((0 ≤ i ∧ i < n) → (suE n ((Z0.app 0 M1).push q 1 i 0 0) (q + 1)).set = 2 ^ n - 1 - 2 ^ i.toNat ∧ (suE n ((Z0.app 0 M1).push q 1 i 0 0) (q + 1)).wrong = (suE n M1 q).wrong + 1) ∧
    (¬ (0 ≤ i ∧ i < n) → (suE n ((Z0.app 0 M1).push q 1 i 0 0) (q + 1)).set = 2 ^ n - 1) := by
  have he : suE n ((Z0.app 0 M1).push q 1 i 0 0) q = suE n M1 q := suE_congr (q := q) (fun j hj => by
    obtain ⟨h1, h2, _⟩ := push_other (Z0.app 0 M1) q 1 i 0 0 (j := j) (by omega)
    obtain ⟨h3, h4⟩ := app_zero M1 j
    exact ⟨h1.trans h3, h2.trans h4⟩) q (Nat.le_refl _)
  obtain ⟨hk, hf, _⟩ := push_at (Z0.app 0 M1) q 1 i 0 0
  have hs : suE n ((Z0.app 0 M1).push q 1 i 0 0) (q + 1) = (suStep n 1 i (suE n M1 q)).2 := by rw [suE, hk, hf, he]
  rw [hs]
  unfold suStep
  rw [if_neg (by omega), if_neg (by omega)]
  constructor
  · intro h
    rw [if_neg (by omega)]
    exact sus_beat hn hall (by omega)
  · intro h
    rw [if_pos (by omega)]
    exact hall

set_option maxRecDepth 100000 in
set_option maxHeartbeats 3200000 in
theorem suspectSure_go (n : Int) (m cap : Nat) (A : Option Addr) (M : Mv) (i : Int) (w : World) (hr : Rd w w.heap.size A (m * 4) (mvF M)) (hm : m ≤ 20) :
    Calls Try.prog 6 #[.int .i64 n, .slice A m cap, .int .i64 i] w fun e w' => e = .returned (.bool true) ∧ Below w.heap.size w w' := by
  have HR := Lib.hid hr; clear hr
  go_enter Try.func6, Try.ntmps6
  go_wp2_with (first
    | (at_builtin; refine wpList_apMvs rfl (.tmp 16) (.tmp 17) rfl w.heap.size rfl (Own.empty _ _ _ _ (mvF Z0) _ (by simp) (by simp)) rfl (HR.out.alloc (Nat.le_refl _) _) m (Nat.zero_add m) (by unfold maxLen; omega) (by omega) (by simp) ?_; intro A3 c3 w3 ho3 hg3 ha3
       have HL3 : Hid (GS w w3 A3 m c3 (Z0.app 0 M)) := ⟨ho3, ((Below.refl w.heap.size w).alloc (Nat.le_refl _) (.cells #[] 37)).grown hg3 (by simp) (fun k hk => by simp [ablock] at hk; omega)⟩
       clear ho3 hg3 ha3)
    | fail)
  go_loopw [7, 8] (fun l i wr => ∃ t A' cap' M', t ≤ 30 ∧ i = .int .i64 (t : Nat) ∧ l = .slice A' (m + t) cap' ∧ Hid (GS w wr A' (m + t) cap' M') ∧ Hid (∀ s, s < t → M'.k (m + s) = 2)) (fun _ i _ => 30 - (intOf i).toNat)
  case atStart => exact ⟨0, A3, c3, _, by omega, rfl, rfl, HL3, fun s hs => absurd hs (by omega)⟩
  case round =>
    clear HL3
    obtain ⟨t, A1, cap1, M1, ht, rfl, rfl, HL, HT⟩ := hrel
    have hz := HL.out.bel.size
    by_cases htN : t < 30
    · go_wp2_with (at_builtin; refine wpList_apMv rfl (.tmp 23) (.tmp 25) rfl w.heap.size rfl wr.heap.size _ _ _ _ rfl rfl HL.out.own rfl (by omega) (by omega) ?_; intro A2 c2 w2 ho2 hg2 ha2)
      have HL2 := Lib.hid (HL.out.app hg2 ho2)
      have HT2 : Hid (∀ s, s < t + 1 → (M1.push (m + t) 2 0 0 0).k (m + s) = 2) := by
        show ∀ _, _
        intro s hs
        by_cases e : s = t
        · subst e; exact (push_at M1 (m + s) 2 0 0 0).1
        · rw [(push_other M1 (m + t) 2 0 0 0 (j := m + s) (by omega)).1]; exact HT.out s (by omega)
      clear ho2 hg2 ha2
      go_roundw
      case rel => exact ⟨t + 1, A2, c2, _, by omega, by go_num, rfl, HL2, HT2⟩
      case measure => simp [intOf]; omega
    · obtain rfl : t = 30 := by omega
      by_cases hn : 1 ≤ n ∧ n ≤ 6
      · obtain ⟨k, rfl⟩ := Int.eq_ofNat_of_zero_le (by omega : 0 ≤ n)
        have hk1 : 1 ≤ k := by omega
        have hk6 : k ≤ 6 := by omega
        clear hn
        have HS := Lib.hid (sus_all (n := k) hk6 hm HT.out)
        go_wp2_with fail
        refine (sus_good k (m + 30) cap1 _ A1 M1 wr hk1 hk6 (by omega) (Nat.le_refl _) HL.out.own.rd).mono ?_
        rintro e w4 ⟨v, rfl, gw, A4, c4, rfl, hp4⟩
        have HP4 := Lib.hid hp4; clear hp4
        have hb4 := HP4.out.bel
        have HG4 : Hid (GS w w4 A1 (m + 30) cap1 M1) := ⟨HL.out.own.below hb4 (fun k hk => (HL.out.own.lt k hk).2), HL.out.bel.trans (hb4.mono HL.out.bel.size)⟩
        clear hb4
        go_upto_region 9 with (fail)
        refine at_world (F := fun W' => Code.wp _ _ _ _ W') (fun W => SuO wr W k (m + 30) (suE k M1 (m + 30)) gw A4 c4 (suC k M1) w4.heap.size ∧ GS w W A1 (m + 30) cap1 M1) ⟨SuO.made HP4.out, HG4.out.own.alloc _, HG4.out.bel.alloc HG4.out.bel.size _⟩ ?_
        intro W ⟨hW, hG⟩
        obtain ⟨b, hb0⟩ : ∃ b, w4.heap.size = b := ⟨_, rfl⟩
        rw [hb0] at hW ⊢
        have HW := Lib.hid hW
        have HG := Lib.hid hG
        have hzW := hG.bel.size
        clear hW hG hb0 HG4 HP4 HL
        go_wp2_with (first
          | (at_builtin; refine wpList_apMvs rfl (.tmp 35) (.tmp 36) rfl W.heap.size rfl (Own.empty W _ _ _ (mvF Z0) _ rfl (Nat.le_refl _)) rfl (HG.out.own.alloc _).rd (m + 30) (Nat.zero_add _) (by unfold maxLen; omega) (by omega) (by simp) ?_; intro A5 c5 w5 ho5 hg5 ha5
             have HG5 : Hid (GS W w5 A5 (m + 30) c5 (Z0.app 0 M1)) := ⟨ho5, ((Below.refl W.heap.size W).alloc (Nat.le_refl _) (.cells #[] 37)).grown hg5 (by simp) (fun k hk => by simp [ablock] at hk; omega)⟩
             have hz5 := HG5.out.bel.size
             clear ho5 hg5 ha5)
          | (at_builtin; refine wpList_apMv rfl (.tmp 37) (.tmp 40) rfl W.heap.size rfl w5.heap.size _ _ _ _ rfl rfl HG5.out.own rfl (by omega) (by omega) ?_; intro A6 c6 w6 ho6 hg6 ha6
             have HG6 := Lib.hid (HG5.out.app hg6 ho6)
             have HW6 := Lib.hid (HW.out.keep HG6.out.bel)
             have hz6 := HG6.out.bel.size
             clear ho6 hg6 ha6 HG5)
          | fail)
        refine (sus_good k (m + 30 + 1) c6 _ A6 _ w6 hk1 hk6 (by omega) (Nat.le_refl _) HG6.out.own.rd).mono ?_
        rintro e w7 ⟨v, rfl, gw2, A7, c7, rfl, hp7⟩
        have HP7 := Lib.hid hp7; clear hp7
        have HW7 := Lib.hid (HW6.out.keep HP7.out.bel)
        have HB7 := Lib.hid (HG.out.bel.trans ((HG6.out.bel.trans (HP7.out.bel.mono hz6)).mono hzW))
        clear HG6 HW6
        have HIn := Lib.hid (sus_last (n := k) hk6 (q := m + 30) (i := i) HS.out)
        generalize (suE k ((Z0.app 0 M1).push (m + 30) 1 i 0 0) (m + 30 + 1)) = SZ at HP7 HIn
        have hyw : (suE k M1 (m + 30)).wrong ≤ 60 := by have := (SI.all hk6 M1 (m + 30)).wrong; omega
        generalize (suE k M1 (m + 30)) = SY at HW HW7 HIn HS hyw
        go_upto_region 10 with (fail)
        refine at_world (F := fun W' => Code.wp _ _ _ _ W') (fun W' => SuO w6 W' k (m + 30 + 1) SZ gw2 A7 c7 (suC k _) w7.heap.size ∧ SuO wr W' k (m + 30) SY gw A4 c4 (suC k M1) b ∧ Below w.heap.size w W') ⟨SuO.made HP7.out, HW7.out.alloc _, HB7.out.alloc HB7.out.size _⟩ ?_
        intro W2 ⟨hW2, hW3, hW4⟩
        obtain ⟨b2, hb2⟩ : ∃ b, w7.heap.size = b := ⟨_, rfl⟩
        rw [hb2] at hW2 ⊢
        have hbz2 := hW2.lt
        have hbz := hW3.lt
        obtain ⟨t0, t1, t2, t3⟩ := hW2.cells
        obtain ⟨s0, s1, s2, s3⟩ := hW3.cells
        rw [HS.out] at s1
        clear s0 s3 t0 t3
        have HB := Lib.hid hW4
        clear hW2 hW3 hW4 hb2 HP7 HW7 HB7 HW HG hzW hz hz5 hz6
        have hp1 : 1 ≤ 2 ^ k := Nat.one_le_two_pow
        have hp2 : 2 ^ k ≤ 64 := pow64 hk6
        obtain ⟨p, hp⟩ : ∃ p, 2 ^ k = p := ⟨_, rfl⟩
        have hE : (2 : Int) ^ k = (p : Int) := by rw [← hp]; push_cast; rfl
        rw [hp] at hp1 hp2 s1
        rw [hp] at HIn
        rw [show ((p - 1 : Nat) : Int) = (p : Int) - 1 by omega] at s1
        clear hp
        by_cases hi : 0 ≤ i ∧ i < k
        · have hbi : (decide (0 ≤ i) && decide (i < (k : Int))) = true := by simpa using hi
          have HBI := Lib.hid hbi
          clear hbi
          obtain ⟨hz1, hz2⟩ := HIn.out.1 hi
          have hr1 := (clr_sub (n := k) hk6 (i := i.toNat) (by omega)).2
          obtain ⟨q, rfl⟩ := Int.eq_ofNat_of_zero_le hi.1
          have hqk : q < k := by omega
          rw [Int.toNat_natCast] at hz1 hr1
          have hr1 : 2 ^ q ≤ p - 1 := by have : ((2 ^ k : Nat) : Int) = p := by push_cast; exact hE
                                         omega
          obtain ⟨r, hr⟩ : ∃ r, 2 ^ q = r := ⟨_, rfl⟩
          have hF : (2 : Int) ^ q = (r : Int) := by rw [← hr]; push_cast; rfl
          rw [hr] at hr1 hz1
          clear hr HIn hi
          rw [hz1, show ((p - 1 - r : Nat) : Int) = (p : Int) - 1 - r by omega] at t1
          rw [hz2] at t2
          push_cast at t2
          clear hz1 hz2
          go_wp2_with (go_at_call 13; refine (inside1 true k q _ _ _ rfl HBI.out).mono ?_; rintro e w8 ⟨rfl, rfl⟩)
          go_ret
          exact ⟨ret_bool (by simp), HB.out.alloc HB.out.size _⟩
        · have hbi : (decide (0 ≤ i) && decide (i < (k : Int))) = false := by
            by_cases h : 0 ≤ i
            · simp [h]; omega
            · simp [h]
          have HBI := Lib.hid hbi
          clear hbi
          rw [HIn.out.2 hi, show ((p - 1 : Nat) : Int) = (p : Int) - 1 by omega] at t1
          clear HIn hi
          go_wp2_with (go_at_call 13; refine (inside1 false k i _ _ _ rfl HBI.out).mono ?_; rintro e w8 ⟨rfl, rfl⟩)
          go_ret
          exact ⟨ret_bool (by simp), HB.out.alloc HB.out.size _⟩
      · have HNB : Hid (¬ (1 ≤ n ∧ n ≤ 6 ∧ ((m + 30 : Nat) : Int) ≤ 60)) := fun h => hn ⟨h.1, h.2.1⟩
        have HNC : Hid (¬ (1 ≤ n ∧ n ≤ 6 ∧ ((m + 30 + 1 : Nat) : Int) ≤ 60)) := fun h => hn ⟨h.1, h.2.1⟩
        have hn' : n < 1 ∨ 6 < n := by omega
        clear hn
        go_wp2_with fail
        refine (sus_bad n (m + 30) cap1 A1 wr (by unfold maxLen; omega) HNB.out).mono ?_
        rintro e w4 ⟨rfl, hb4⟩
        have HG4 : Hid (GS w w4 A1 (m + 30) cap1 M1) := ⟨HL.out.own.below hb4 (fun k hk => (HL.out.own.lt k hk).2), HL.out.bel.trans (hb4.mono HL.out.bel.size)⟩
        clear hb4 HL
        go_upto_region 9 with (fail)
        refine at_world (F := fun W' => Code.wp _ _ _ _ W') (fun W => GS w W A1 (m + 30) cap1 M1) ⟨HG4.out.own.alloc _, HG4.out.bel.alloc HG4.out.bel.size _⟩ ?_
        intro W hG
        have HG := Lib.hid hG
        have hzW := hG.bel.size
        clear hG HG4
        go_wp2_with (first
          | (at_builtin; refine wpList_apMvs rfl (.tmp 35) (.tmp 36) rfl W.heap.size rfl (Own.empty W _ _ _ (mvF Z0) _ rfl (Nat.le_refl _)) rfl (HG.out.own.alloc _).rd (m + 30) (Nat.zero_add _) (by unfold maxLen; omega) (by omega) (by simp) ?_; intro A5 c5 w5 ho5 hg5 ha5
             have HG5 : Hid (GS W w5 A5 (m + 30) c5 (Z0.app 0 M1)) := ⟨ho5, ((Below.refl W.heap.size W).alloc (Nat.le_refl _) (.cells #[] 37)).grown hg5 (by simp) (fun k hk => by simp [ablock] at hk; omega)⟩
             have hz5 := HG5.out.bel.size
             clear ho5 hg5 ha5)
          | (at_builtin; refine wpList_apMv rfl (.tmp 37) (.tmp 40) rfl W.heap.size rfl w5.heap.size _ _ _ _ rfl rfl HG5.out.own rfl (by omega) (by omega) ?_; intro A6 c6 w6 ho6 hg6 ha6
             have HG6 := Lib.hid (HG5.out.app hg6 ho6)
             have hz6 := HG6.out.bel.size
             clear ho6 hg6 ha6 HG5)
          | fail)
        refine (sus_bad n (m + 30 + 1) c6 A6 w6 (by unfold maxLen; omega) HNC.out).mono ?_
        rintro e w7 ⟨rfl, hb7⟩
        have HB7 := Lib.hid (HG.out.bel.trans ((HG6.out.bel.trans (hb7.mono hz6)).mono hzW))
        clear HG6 hb7
        go_wp2
        all_goals first | (go_ret; exact ⟨ret_bool (by simp), HB7.out.alloc HB7.out.size _⟩) | (exfalso; omega) | skip
theorem suspectSure_long (n : Int) (m cap : Nat) (A : Option Addr) (i : Int) (w : World) (hm : 20 < m) :
    Calls Try.prog 6 #[.int .i64 n, .slice A m cap, .int .i64 i] w fun e w' => e = .returned (.bool true) ∧ Below w.heap.size w w' := by
  go_enter Try.func6, Try.ntmps6
  go_wp2
  go_ret
  exact ⟨rfl, Below.refl _ _⟩
theorem suspectSure_all (n : Int) (A : Option Addr) (m cap : Nat) (M : Mv) (i : Int) (w : World) (_ : (Lit.int .i64 n).wf = true) (hmc : m ≤ cap ∧ cap ≤ maxLen) (hr : Rd w w.heap.size A (m * 4) (mvF M)) (_ : (Lit.int .i64 i).wf = true) :
    Calls Try.prog 6 #[.int .i64 n, .slice A m cap, .int .i64 i] w fun e w' => e = .returned (.bool true) ∧ Below w.heap.size w w' := by
  by_cases hm : m ≤ 20
  · exact suspectSure_go n m cap A M i w hr hm
  · exact suspectSure_long n m cap A i w (by omega)
end Go.Proofs.Ytcipdjdbafngkaa
