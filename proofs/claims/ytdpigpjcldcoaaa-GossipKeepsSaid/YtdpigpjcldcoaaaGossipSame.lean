/- The law GossipSame, walked. -/
import Derived.Test.YtdpigpjcldcoaaaGoLaw2
import Derived.Test.YtdpigpjcldcoaaaGoPl
set_option linter.unusedVariables false
set_option linter.unusedSimpArgs false
namespace Go.Proofs.Ytdpigpjcldcoaaa
open Go.RowKit

abbrev Z0 : Mv := ⟨fun _ => 0, fun _ => 0, fun _ => 0, fun _ => 0⟩
abbrev mvs (A : Option Addr) (q cap : Nat) (M : Mv) : LRow := ⟨A, 41, 4, q, cap, mvF M⟩
theorem tellsN_is {n : Nat} (h1 : 1 ≤ n) (h6 : n ≤ 6) : tellsN (n : Nat) = n - 1 := by unfold tellsN; omega
theorem tells_app {n m : Nat} (M : Mv) (h1 : 1 ≤ n) : Tells n m (M.app m (TM (n - 1))) := by
  refine ⟨fun j hj => ?_, fun j hj => ?_⟩
  · obtain ⟨a, b, c, -⟩ := app_new M m (TM (n - 1)) j
    rw [a, b, c]
    refine ⟨rfl, ?_, ?_⟩
    · show (if j < n - 1 then ((j + 1 : Nat) : Int) else 0) = _
      rw [if_pos hj]
    · show (if j < n - 1 then (0 : Int) else _) = _
      rw [if_pos hj]; rfl
  · obtain ⟨a, b, c, -⟩ := app_new M m (TM (n - 1)) (n - 1 + j)
    rw [← Nat.add_assoc] at a b c
    rw [a, b, c]
    refine ⟨rfl, ?_, ?_⟩
    · show (if n - 1 + j < n - 1 then _ else (0 : Int)) = _
      rw [if_neg (by omega)]; rfl
    · show (if n - 1 + j < n - 1 then _ else ((n - 1 + j - (n - 1) + 1 : Nat) : Int)) = _
      rw [if_neg (by omega), show n - 1 + j - (n - 1) + 1 = j + 1 by omega]
theorem srt_short {n : Nat} {M : Mv} {m : Nat} {KS : Nat → List Kn} (h : ∀ i, i < n → Srt n ((goE n M m).known i) (KS i)) {i : Nat} (hi : i < n) : (KS i).length ≤ m := by
  obtain ⟨W, hW⟩ := GI.all n M m
  rw [(h i hi).len]; exact hW.short hi
set_option maxRecDepth 100000 in
set_option maxHeartbeats 3200000 in
theorem gossipSame_good (n m cap : Nat) (A : Option Addr) (M : Mv) (w : World) (hm : m ≤ 40) (hr : Rd w w.heap.size A (m * 4) (mvF M)) (h1 : 1 ≤ n) (h6 : n ≤ 6) :
    Calls Try.prog 3 #[.int .i64 n, .slice A m cap] w fun e w' => e = .returned (.bool true) ∧ Below w.heap.size w w' := by
  have HR := Lib.hid hr; clear hr
  have HTN := Lib.hid (tellsN_is h1 h6)
  go_enter Try.func3, Try.ntmps3
  go_wp2_with (first
    | (at_builtin; refine wpList_apMvs rfl (.tmp 12) (.tmp 13) rfl w.heap.size rfl (Own.empty _ _ _ _ (mvF Z0) _ (by simp) (by simp)) rfl (HR.out.alloc (Nat.le_refl _) _) m (Nat.zero_add m) (by unfold maxLen; omega) (by omega) (by simp) ?_; intro A3 c3 w3 ho3 hg3 ha3
       have HL3 : Hid (Lay w w3 [mvs A3 m c3 (Z0.app 0 M)]) := (((Lay.nil w).new #[] 41 4 0 (mvF Z0) _ rfl rfl (by unfold maxLen; omega) (fun j hj => absurd hj (by omega))).app 0 rfl ho3 hg3 ha3)
       clear ho3 hg3 ha3)
    | (go_at_call 7; refine (tells_any ((n : Nat) : Int) w3).mono ?_; rintro e w4 ⟨A4, c4, rfl, h4⟩; have HL4 := Lib.hid (HL3.out.join h4); clear h4 HL3; first | rw [HTN.out] at HL4 ⊢ | skip)
    | (at_builtin; refine wpList_apMvs rfl (.tmp 14) (.tmp 16) rfl w.heap.size rfl (HL4.out.own 1 _ rfl) rfl (HL4.out.rd 0 rfl) (m + ((n - 1) + (n - 1))) rfl (by unfold maxLen; omega) (by omega) HL4.out.size ?_; intro A5 c5 w5 ho5 hg5 ha5
       have HL5 := Lib.hid (HL4.out.app 1 rfl ho5 hg5 ha5).tail
       clear ho5 hg5 ha5 HL4)
    | fail)
  refine (go_play n (m + ((n - 1) + (n - 1))) c5 w5.heap.size A5 ((Z0.app 0 M).app m (TM (n - 1))) w5 h1 h6 (by omega) (Nat.le_refl _) (HL5.out.rd 0 rfl)).mono ?_
  rintro e w6 ⟨v, rfl, p, KS, rfl, hS, hR, hb⟩
  have HBW := Lib.hid (HL5.out.bel.trans (hb.mono HL5.out.size))
  have HLEN : Hid (∀ i, i < n → (KS i).length ≤ 1000) := Lib.hid fun i hi => Nat.le_trans (srt_short hS hi) (by omega)
  have HLAW : Hid (∀ i, i < n → (KS i).length = (KS 0).length ∧ ∀ t, t < (KS i).length → (knAt (KS i) t).val = (knAt (KS 0) t).val ∧ Eqv n (knAt (KS i) t).vec (knAt (KS 0) t).vec) := Lib.hid fun i hi => by
    have hT := tells_app (n := n) (m := m) (Z0.app 0 M) h1
    have h2 := hT.all h1 hi
    rw [show m + (n - 1) + (n - 1) = m + ((n - 1) + (n - 1)) by omega] at h2
    exact srt_same (anti_all n _ _ hi) (anti_all n _ _ (show 0 < n by omega)) h2 (hS i hi) (hS 0 (by omega))
  have HG := Lib.hid hR
  clear hS hR hb HR HTN HL5
  generalize goC n ((Z0.app 0 M).app m (TM (n - 1))) = cd at HG
  obtain ⟨mm, hmm⟩ : ∃ mm, mm = m + ((n - 1) + (n - 1)) := ⟨_, rfl⟩
  have hm2 : mm ≤ 1000 := by omega
  rw [← hmm] at HG ⊢
  clear hmm
  go_wp2_with fail
  have HL1 := Lib.hid ((Lay.nil w6).newB (p.l n mm) 27 2 rfl _ rfl)
  refine at_lay (F := fun W' => Calls _ _ _ W' _) HL1.out ?_
  intro W hW
  have HW := Lib.hid hW
  clear hW HL1
  generalize w6.heap.size = bb at HW ⊢
  refine (told_any n mm w6.heap.size cd KS p W h6 hm2 HLEN.out (HG.out.to HW.out.bel)).mono ?_
  rintro e w7 ⟨rfl, hb7⟩
  have HW7 := Lib.hid (HW.out.keep hb7)
  clear hb7 HW
  go_wp2
  go_loopw [8] (fun x wr => ∃ q : Nat, q ≤ n ∧ x = .int .i64 q ∧ Hid (Lay w6 wr [blkG bb (p.l n mm)])) (fun x _ => n - (intOf x).toNat)
  case atStart => exact ⟨0, by omega, rfl, HW7⟩
  case round =>
    clear HW7
    obtain ⟨q, hq, rfl, HQ⟩ := hrel
    by_cases hlt : q < n
    · have hg := HG.out.to HQ.out.bel
      have g1 := hg.K q hlt
      have g0 : wr.cell? p.aK = some (.slice (p.gA 0) (KS 0).length (p.gc 0)) := by simpa [Addr.add] using hg.K 0 (by omega)
      have c1 := HQ.out.cellB 0 rfl 1 (by omega)
      simp only [ofL_1] at c1
      have HK1 := Lib.hid (hg.L q hlt)
      have HK0 := Lib.hid (hg.L 0 (by omega))
      have hl := HLEN.out q hlt
      have HE := Lib.hid (HLAW.out q hlt)
      have HLE := Lib.hid hg.le
      clear hg
      go_wp2
      refine wp_text 9 (by kernel_rfl) (by kernel_rfl) (by kernel_rfl) (by repeat' (first | (with_reducible apply tame_then) | (with_reducible apply tame_block) | (with_reducible apply tame_scope) | exact tame_gives | exact tame_body (fun _ _ h => ⟨_, h.1⟩))) ?_
      simp only [List.take_succ_cons, List.take_zero, List.drop_succ_cons, List.drop_zero]
      go_wp2
      refine headed ?_
      go_wp2_with fail
      refine (knowns_any n (p.gc q) (p.gc 0) w6.heap.size (p.gA q) (p.gA 0) (KS q) (KS 0) wr.drew h6 hl HE.out.1 HE.out.2 HLE.out (HK1.out.below (below_sim (Below.refl _ _) ⟨rfl, rfl, rfl, rfl⟩)) (HK0.out.below (below_sim (Below.refl _ _) ⟨rfl, rfl, rfl, rfl⟩))).mono ?_
      rintro e w8 ⟨rfl, h8⟩
      have HQ8 := Lib.hid (HQ.out.drew.keep h8)
      clear h8 HQ
      go_wp2
      go_roundw
      case rel => exact ⟨q + 1, by omega, by go_num, HQ8⟩
      case measure => first | (simp [intOf]; done) | (simp [intOf]; omega)
    · obtain rfl : q = n := by omega
      go_wp2
      go_ret
      exact ⟨rfl, HBW.out.trans (HQ.out.bel.mono HBW.out.size)⟩
set_option maxRecDepth 100000 in
set_option maxHeartbeats 3200000 in
theorem gossipSame_bad (n : Int) (m cap : Nat) (A : Option Addr) (M : Mv) (w : World) (hm : m ≤ 40) (hr : Rd w w.heap.size A (m * 4) (mvF M)) (h : n < 1 ∨ 6 < n) :
    Calls Try.prog 3 #[.int .i64 n, .slice A m cap] w fun e w' => e = .returned (.bool true) ∧ Below w.heap.size w w' := by
  have HR := Lib.hid hr; clear hr
  obtain ⟨c, hc⟩ : ∃ c, tellsN n = c := ⟨_, rfl⟩
  have hc5 : c ≤ 5 := by rw [← hc]; unfold tellsN; omega
  have HTN := Lib.hid hc
  clear hc
  have HPB : Hid (playedB n (m + (c + c) : Nat) = false) := Lib.hid (by
    cases hp : playedB n (m + (c + c) : Nat)
    · rfl
    · have := playedB_iff.1 hp; omega)
  go_enter Try.func3, Try.ntmps3
  go_wp2_with (first
    | (at_builtin; refine wpList_apMvs rfl (.tmp 12) (.tmp 13) rfl w.heap.size rfl (Own.empty _ _ _ _ (mvF Z0) _ (by simp) (by simp)) rfl (HR.out.alloc (Nat.le_refl _) _) m (Nat.zero_add m) (by unfold maxLen; omega) (by omega) (by simp) ?_; intro A3 c3 w3 ho3 hg3 ha3
       have HL3 : Hid (Lay w w3 [mvs A3 m c3 (Z0.app 0 M)]) := (((Lay.nil w).new #[] 41 4 0 (mvF Z0) _ rfl rfl (by unfold maxLen; omega) (fun j hj => absurd hj (by omega))).app 0 rfl ho3 hg3 ha3)
       clear ho3 hg3 ha3)
    | (go_at_call 7; refine (tells_any n w3).mono ?_; rintro e w4 ⟨A4, c4, rfl, h4⟩; have HL4 := Lib.hid (HL3.out.join h4); clear h4 HL3; first | rw [HTN.out] at HL4 ⊢ | skip)
    | (at_builtin; refine wpList_apMvs rfl (.tmp 14) (.tmp 16) rfl w.heap.size rfl (HL4.out.own 1 _ rfl) rfl (HL4.out.rd 0 rfl) (m + (c + c)) rfl (by unfold maxLen; omega) (by omega) HL4.out.size ?_; intro A5 c5 w5 ho5 hg5 ha5
       have HL5 := Lib.hid (HL4.out.app 1 rfl ho5 hg5 ha5).tail
       clear ho5 hg5 ha5 HL4)
    | fail)
  refine (go_bad' n (m + (c + c)) c5 A5 w5 (by unfold maxLen; omega) HPB.out).mono ?_
  rintro e w6 ⟨rfl, hb⟩
  have HBW := Lib.hid (HL5.out.bel.trans (hb.mono HL5.out.size))
  clear hb HL5
  rcases h with h | h
  · go_wp2
    go_ret
    exact ⟨rfl, HBW.out.alloc HBW.out.size _⟩
  · have h2 : ¬ n < 1 := by omega
    go_wp2
    go_ret
    exact ⟨rfl, HBW.out.alloc HBW.out.size _⟩
set_option maxHeartbeats 800000 in
theorem gossipSame_all (n : Int) (A : Option Addr) (m cap : Nat) (M : Mv) (w : World) (_ : (Lit.int .i64 n).wf = true) (hmc : m ≤ cap ∧ cap ≤ maxLen) (hr : Rd w w.heap.size A (m * 4) (mvF M)) :
    Calls Try.prog 3 #[.int .i64 n, .slice A m cap] w fun e w' => e = .returned (.bool true) ∧ Below w.heap.size w w' := by
  by_cases hm : m ≤ 40
  · by_cases h : 1 ≤ n ∧ n ≤ 6
    · obtain ⟨n, rfl⟩ := Int.eq_ofNat_of_zero_le (show 0 ≤ n by omega)
      exact gossipSame_good n m cap A M w hm hr (by omega) (by omega)
    · exact gossipSame_bad n m cap A M w hm hr (by omega)
  · have hm2 : m ≤ 9223372036854775807 := by have := hmc.1; have := hmc.2; unfold maxLen at this; omega
    go_enter Try.func3, Try.ntmps3
    go_wp2
    go_ret
    exact ⟨rfl, Below.refl _ _⟩
end Go.Proofs.Ytdpigpjcldcoaaa
