/- The law TopOwn, walked. -/
import Derived.Test.YtfdgjbanajodfaaDoorTopOpen
set_option linter.unusedVariables false
set_option linter.unusedSimpArgs false
namespace Go.Proofs.YtfdgjbanajodfaaDoor
open Go.RowKit
set_option maxRecDepth 100000 in
set_option maxHeartbeats 1600000 in
theorem topOwn_bad (n : Int) (m cap : Nat) (A : Option Addr) (X : Nat → StepX) (c tt : Int) (p : Str) (w : World) (hb : m * 72 ≤ 140737488351232) (hbad : n < 1 ∨ 6 < n ∨ 60 < m + 3) (hr : Rd w w.heap.size A (m * 7) (skF X)) :
    Calls Tryd.prog 6 #[.int .i64 n, .slice A m cap, .int .i64 c, .string (bs p), .int .i64 tt] w fun e w' => e = .returned (.bool true) ∧ Below w.heap.size w w' := by
  have HR := Lib.hid hr; clear hr
  go_enter Tryd.func6, Tryd.ntmps6
  go_wp2_with (first
    | (at_builtin; refine wpList_apXs rfl (.tmp 15) (.tmp 16) rfl w.heap.size rfl (Own.empty _ _ _ _ (skF (fun _ => Sz)) _ (by simp) (by simp)) rfl (HR.out.alloc (Nat.le_refl _) _) m (Nat.zero_add m) (by unfold maxLen; omega) (by omega) (by simp) ?_; intro A3 c3 w3 ho3 hg3 ha3
       have HL3 : Hid (Lay w w3 [sts A3 m c3 (appX (fun _ => Sz) 0 X)]) := (((Lay.nil w).new #[] 49 7 0 (skF (fun _ => Sz)) _ rfl rfl (by unfold maxLen; omega) (fun j hj => absurd hj (by omega))).app 0 rfl ho3 hg3 ha3)
       rw [appX_zero] at HL3
       clear ho3 hg3 ha3)
    | (at_builtin; refine wpList_apXs rfl (.tmp 17) (.tmp 29) rfl w.heap.size rfl ((HL3.out.alloc _).own 0 _ rfl) rfl (new_steps w3 [⟨1, c, 0, ⟨1, p, [], 0⟩⟩, ⟨3, c, tt, Dz⟩, ⟨1, c, 0, ⟨4, p, [], 0⟩⟩] _) (m + 3) rfl (by unfold maxLen; omega) (by omega) (HL3.out.alloc _).size ?_; intro A5 c5 w5 ho5 hg5 ha5
       have HL5 := Lib.hid ((HL3.out.alloc _).app 0 rfl ho5 hg5 ha5)
       clear ho5 hg5 ha5 HL3)
    | fail)
  refine (kplay_bad n (m + 3) c5 A5 w5 (by unfold maxLen; omega) hbad).mono ?_
  rintro e w6 ⟨rfl, hb6⟩
  have HB6 := Lib.hid (HL5.out.bel.trans (hb6.mono HL5.out.size))
  have HC := Lib.hid (if_pos (show n < 1 ∨ 6 < n ∨ 60 < ((m + 3 : Nat) : Int) by omega) : (if n < 1 ∨ 6 < n ∨ 60 < ((m + 3 : Nat) : Int) then (1 : Int) else 0) = 1)
  have HCK := Lib.hid fun W => check_any n ((m + 3 : Nat) : Int) W
  rw [HC.out] at HCK
  clear hb6 HL5 HR
  go_wp2_with (go_at_call 15
               refine (HCK.out _).mono ?_
               rintro e w' ⟨rfl, hw'⟩
               subst w')
  go_ret
  exact ⟨rfl, HB6.out.alloc HB6.out.size _⟩
set_option maxRecDepth 100000 in
set_option maxHeartbeats 3200000 in
theorem topOwn_good (n m cap : Nat) (A : Option Addr) (X : Nat → StepX) (c tt : Int) (p : Str) (w : World) (hn1 : 1 ≤ n) (hn : n ≤ 6) (hm : m + 3 ≤ 60) (hD : ∀ i, i < m → DeedL (X i).deed) (hp : p.length ≤ 140737488351232) (hr : Rd w w.heap.size A (m * 7) (skF X)) :
    Calls Tryd.prog 6 #[.int .i64 n, .slice A m cap, .int .i64 c, .string (bs p), .int .i64 tt] w fun e w' => e = .returned (.bool true) ∧ Below w.heap.size w w' := by
  have HR := Lib.hid hr
  have HD : Hid (∀ i, i < m + 3 → DeedL (appX X m (lsX [⟨1, c, 0, ⟨1, p, [], 0⟩⟩, ⟨3, c, tt, Dz⟩, ⟨1, c, 0, ⟨4, p, [], 0⟩⟩]) i).deed) := Lib.hid (appX_L (l := [⟨1, c, 0, ⟨1, p, [], 0⟩⟩, ⟨3, c, tt, Dz⟩, ⟨1, c, 0, ⟨4, p, [], 0⟩⟩]) hD fun x hx => by
    rcases List.mem_cons.1 hx with rfl | hx
    · exact ⟨hp, Nat.zero_le _⟩
    · rcases List.mem_cons.1 hx with rfl | hx
      · exact Dz_L
      · obtain rfl := List.mem_singleton.1 hx
        exact ⟨hp, Nat.zero_le _⟩)
  have HLAW := Lib.hid (ownLaw (kst_ok hn1 X m hD) c tt p hp)
  have HC := Lib.hid (if_neg (show ¬ ((n : Int) < 1 ∨ 6 < (n : Int) ∨ 60 < ((m + 3 : Nat) : Int)) by omega) : (if (n : Int) < 1 ∨ 6 < (n : Int) ∨ 60 < ((m + 3 : Nat) : Int) then (1 : Int) else 0) = 0)
  have HCK := Lib.hid fun W => check_any (n : Int) ((m + 3 : Nat) : Int) W
  rw [HC.out] at HCK
  clear hr hD HC
  go_enter Tryd.func6, Tryd.ntmps6
  go_wp2_with (first
    | (at_builtin; refine wpList_apXs rfl (.tmp 15) (.tmp 16) rfl w.heap.size rfl (Own.empty _ _ _ _ (skF (fun _ => Sz)) _ (by simp) (by simp)) rfl (HR.out.alloc (Nat.le_refl _) _) m (Nat.zero_add m) (by unfold maxLen; omega) (by omega) (by simp) ?_; intro A3 c3 w3 ho3 hg3 ha3
       have HL3 : Hid (Lay w w3 [sts A3 m c3 (appX (fun _ => Sz) 0 X)]) := (((Lay.nil w).new #[] 49 7 0 (skF (fun _ => Sz)) _ rfl rfl (by unfold maxLen; omega) (fun j hj => absurd hj (by omega))).app 0 rfl ho3 hg3 ha3)
       rw [appX_zero] at HL3
       clear ho3 hg3 ha3)
    | (at_builtin; refine wpList_apXs rfl (.tmp 17) (.tmp 29) rfl w.heap.size rfl ((HL3.out.alloc _).own 0 _ rfl) rfl (new_steps w3 [⟨1, c, 0, ⟨1, p, [], 0⟩⟩, ⟨3, c, tt, Dz⟩, ⟨1, c, 0, ⟨4, p, [], 0⟩⟩] _) (m + 3) rfl (by unfold maxLen; omega) (by omega) (HL3.out.alloc _).size ?_; intro A5 c5 w5 ho5 hg5 ha5
       have HL5 := Lib.hid ((HL3.out.alloc _).app 0 rfl ho5 hg5 ha5)
       clear ho5 hg5 ha5 HL3)
    | fail)
  refine (kplay_law n (m + 3) c5 w5.heap.size A5 (appX X m (lsX [⟨1, c, 0, ⟨1, p, [], 0⟩⟩, ⟨3, c, tt, Dz⟩, ⟨1, c, 0, ⟨4, p, [], 0⟩⟩])) w5 hn1 hn hm (Nat.le_refl _) HD.out (HL5.out.rd 0 rfl)).mono ?_
  rintro e w6 ⟨AC, cC, AP, cP, AS, cS, NA, NC, rfl, hb6, hK⟩
  have hb := HL5.out.bel.trans (hb6.mono HL5.out.size)
  have HB6 := Lib.hid hb
  have h1 : kans n (appX X m (lsX [⟨1, c, 0, ⟨1, p, [], 0⟩⟩, ⟨3, c, tt, Dz⟩, ⟨1, c, 0, ⟨4, p, [], 0⟩⟩])) m = (keepK n (kst n X m) ⟨1, c, 0, ⟨1, p, [], 0⟩⟩).1 := kans_app n X (lsX [⟨1, c, 0, ⟨1, p, [], 0⟩⟩, ⟨3, c, tt, Dz⟩, ⟨1, c, 0, ⟨4, p, [], 0⟩⟩]) m 0
  have h2 : kans n (appX X m (lsX [⟨1, c, 0, ⟨1, p, [], 0⟩⟩, ⟨3, c, tt, Dz⟩, ⟨1, c, 0, ⟨4, p, [], 0⟩⟩])) (m + 2) = (keepK n (keepK n (keepK n (kst n X m) ⟨1, c, 0, ⟨1, p, [], 0⟩⟩).2 ⟨3, c, tt, Dz⟩).2 ⟨1, c, 0, ⟨4, p, [], 0⟩⟩).1 := kans_app n X (lsX [⟨1, c, 0, ⟨1, p, [], 0⟩⟩, ⟨3, c, tt, Dz⟩, ⟨1, c, 0, ⟨4, p, [], 0⟩⟩]) m 2
  rw [← h1, ← h2] at HLAW
  clear h1 h2
  generalize (kst n (appX X m (lsX [⟨1, c, 0, ⟨1, p, [], 0⟩⟩, ⟨3, c, tt, Dz⟩, ⟨1, c, 0, ⟨4, p, [], 0⟩⟩])) (m + 3)).ap = ap at hK
  generalize (kst n (appX X m (lsX [⟨1, c, 0, ⟨1, p, [], 0⟩⟩, ⟨3, c, tt, Dz⟩, ⟨1, c, 0, ⟨4, p, [], 0⟩⟩])) (m + 3)).seen = seen at hK
  generalize kans n (appX X m (lsX [⟨1, c, 0, ⟨1, p, [], 0⟩⟩, ⟨3, c, tt, Dz⟩, ⟨1, c, 0, ⟨4, p, [], 0⟩⟩])) = a at hK HLAW
  have HK := Lib.hid hK
  clear hb6 HL5 HR HD hb hK
  go_upto_region 3 with (fail)
  refine at_lay (F := fun W' => Code.wp _ _ _ _ W') ((Lay.nil w6).newB [.slice AC (m + 3) cC, .slice AP n cP, .slice AS 6 cS] 52 3 rfl _ rfl) ?_
  intro W hW
  have HW := Lib.hid hW
  have HBW := Lib.hid (HB6.out.trans (hW.bel.mono HB6.out.size))
  have HKW := Lib.hid (HK.out.to hW.bel)
  have hsz : w6.heap.size ≤ W.heap.size := hW.size
  clear hW HK HB6
  generalize hB : w6.heap.size = B at HW HKW hsz ⊢
  have r0 := HW.out.cellB 0 rfl 0 (by omega)
  have r1 := HW.out.cellB 0 rfl 1 (by omega)
  have r2 := HW.out.cellB 0 rfl 2 (by omega)
  simp only [ofL_0, ofL_1, ofL_2] at r0 r1 r2
  go_upto_region 8 with (first
    | (go_at_call 15
       refine (HCK.out _).mono ?_
       rintro e w' ⟨rfl, hw'⟩
       subst w')
    | (go_at_call 16
       refine (kept_any (m + 3) n cC cP cS B AC AP AS ap seen W hm hn hsz HKW.out.A HKW.out.S).mono ?_
       rintro e w8 ⟨rfl, hb8⟩
       have HB8 := Lib.hid (HBW.out.trans (hb8.mono HBW.out.size))
       have HK8 := Lib.hid (HKW.out.to hb8)
       have HW8 := Lib.hid (HW.out.keep hb8)
       clear hb8 r0 r1 r2 HW HKW
       have r0 := HW8.out.cellB 0 rfl 0 (by omega)
       simp only [ofL_0] at r0
       obtain ⟨ad, rfl, -, k0, -, -, -⟩ := HK8.out.pl.rec4 (show m < m + 3 by omega)
       obtain ⟨ad', e, -, k2, -, -, -⟩ := HK8.out.pl.rec4 (show m + 2 < m + 3 by omega)
       injection e with e
       subst e)
    | fail)
  by_cases z0 : (a m).code = 0
  · have hb : (a (m + 2)).code = 0 := HLAW.out.resolve_left fun h => h.1 z0
    rw [z0] at k0
    rw [hb] at k2
    clear HLAW z0 hb
    go_wp2
    go_ret
    exact ⟨rfl, HB8.out⟩
  · by_cases z7 : (a m).code = 7
    · have hb : (a (m + 2)).code = 0 := HLAW.out.resolve_left fun h => h.2 z7
      rw [z7] at k0
      rw [hb] at k2
      clear HLAW z0 z7 hb
      go_wp2
      go_ret
      exact ⟨rfl, HB8.out⟩
    · have x1 : ((a m).code != 0) = true := by simpa using z0
      have x2 : ((a m).code != 7) = true := by simpa using z7
      clear HLAW z0 z7
      go_wp2
      go_ret
      exact ⟨rfl, HB8.out⟩
theorem topOwn_all (n : Int) (A : Option Addr) (m cap : Nat) (X : Nat → StepX) (c : Int) (p : Str) (tt : Int) (w : World) (hb : m ≤ cap ∧ cap * 72 ≤ 140737488351232) (hD : ∀ i, i < m → DeedL (X i).deed) (hr : Rd w w.heap.size A (m * 7) (skF X)) (hp : p.length ≤ 140737488351232) :
    Calls Tryd.prog 6 #[.int .i64 n, .slice A m cap, .int .i64 c, .string (bs p), .int .i64 tt] w fun e w' => e = .returned (.bool true) ∧ Below w.heap.size w w' := by
  by_cases h : n < 1 ∨ 6 < n ∨ 60 < m + 3
  · exact topOwn_bad n m cap A X c tt p w (by omega) h hr
  · obtain ⟨k, rfl⟩ := Int.eq_ofNat_of_zero_le (show 0 ≤ n by omega)
    exact topOwn_good k m cap A X c tt p w (by omega) (by omega) (by omega) hD hp hr
end Go.Proofs.YtfdgjbanajodfaaDoor
