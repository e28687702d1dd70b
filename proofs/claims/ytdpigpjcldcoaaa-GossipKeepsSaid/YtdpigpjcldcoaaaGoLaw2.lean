/- The walks of Knowns, told and tells. -/
import Derived.Test.YtdpigpjcldcoaaaGoLaw
import Derived.Test.YtdpigpjcldcoaaaMvApp
set_option linter.unusedVariables false
set_option linter.unusedSimpArgs false
namespace Go.Proofs.Ytdpigpjcldcoaaa
open Go.RowKit

set_option maxRecDepth 100000 in
set_option maxHeartbeats 3200000 in
theorem knowns_any (n ca cb B : Nat) (A X : Option Addr) (ka kb : List Kn) (w : World) (hn : n ≤ 6) (hl : ka.length ≤ 1000) (hle : ka.length = kb.length) (he : ∀ i, i < ka.length → (knAt ka i).val = (knAt kb i).val ∧ Eqv n (knAt ka i).vec (knAt kb i).vec) (hB : B ≤ w.heap.size) (ha : KLs n ka A B w) (hb : KLs n kb X B w) :
    Calls Try.prog 10 #[.slice A ka.length ca, .slice X kb.length cb] w fun e w' => e = .returned (.bool true) ∧ Below w.heap.size w w' := by
  have HA := Lib.hid ha; clear ha
  have HX := Lib.hid hb; clear hb
  have HE := Lib.hid he; clear he
  rw [← hle]
  obtain ⟨L, hL⟩ : ∃ L, L = ka.length := ⟨_, rfl⟩
  have HL := Lib.hid hL
  have HL2 := Lib.hid (hL.trans hle)
  rw [← hL] at hl ⊢
  clear hL hle
  have e0 : ((L : Int) != (L : Int)) = false := by simp
  go_enter Try.func10, Try.ntmps10
  go_wp2
  go_loopw [5] (fun i wr => ∃ k : Nat, k ≤ L ∧ i = .int .i64 k ∧ Hid (Below w.heap.size w wr)) (fun i _ => L - (intOf i).toNat)
  case atStart => exact ⟨0, by omega, rfl, Lib.hid (Below.refl _ _)⟩
  case round =>
    obtain ⟨k, hk, rfl, HW⟩ := hrel
    by_cases hlt : k < L
    · obtain ⟨ad, g, c, rfl, hbl, a0, a1, a2⟩ := (HA.out.below (HW.out.mono hB)) k (by rw [← HL.out]; exact hlt)
      obtain ⟨ax, gx, cx, rfl, hbx, x0, x1, x2⟩ := (HX.out.below (HW.out.mono hB)) k (by rw [← HL2.out]; exact hlt)
      have hee := HE.out k (by rw [← HL.out]; exact hlt)
      rw [← hee.1] at x0
      have HR1 := Lib.hid a2
      have HR2 := Lib.hid x2
      have HEQ := Lib.hid hee.2
      clear a2 x2 hee
      generalize (knAt ka k).vec = va at HR1 HEQ
      generalize (knAt kb k).vec = vb at HR2 HEQ
      generalize (knAt ka k).val = u at a0 x0
      have e1 : (u != u) = false := by simp
      go_wp2
      refine wp_text 22 (by kernel_rfl) (by kernel_rfl) (by kernel_rfl) (by repeat' (first | (with_reducible apply tame_then) | (with_reducible apply tame_block) | (with_reducible apply tame_scope) | exact tame_gives | exact tame_body (fun _ _ h => ⟨_, h.1⟩))) ?_
      simp only [List.take_succ_cons, List.take_zero, List.drop_succ_cons, List.drop_zero]
      go_wp2
      refine headed ?_
      go_wp2_with fail
      refine (ints_any n c cx B _ _ va vb true wr.drew (by omega) ⟨fun _ => HEQ.out, fun _ => rfl⟩ (HR1.out.drewN 1) (HR2.out.drewN 1)).mono ?_
      rintro e w5 ⟨rfl, hs⟩
      have HW5 : Hid (Below w.heap.size w w5) := Lib.hid (below_sim (below_sim HW.out (b := wr.drew) ⟨rfl, rfl, rfl, rfl⟩) hs)
      clear hs
      go_wp2
      go_roundw
      case rel => exact ⟨k + 1, by omega, by go_num, HW5⟩
      case measure => simp [intOf]; omega
    · obtain rfl : L = k := by omega
      go_wp2
      go_ret
      exact ⟨rfl, HW.out⟩
set_option maxRecDepth 100000 in
set_option maxHeartbeats 3200000 in
theorem told_any (n m B : Nat) (cd : Nat → Int) (KS : Nat → List Kn) (p : GP) (w : World) (hn : n ≤ 6) (hm : m ≤ 1000) (hl : ∀ i, i < n → (KS i).length ≤ 1000) (h : GRd n m cd KS p B w) :
    Calls Try.prog 9 #[p.agg n m, .int .i64 n, .int .i64 m] w fun e w' => e = .returned (.bool true) ∧ Below w.heap.size w w' := by
  have HR := Lib.hid h; clear h
  have HL := Lib.hid hl; clear hl
  have e0 : ((n : Int) != (n : Int)) = false := by simp
  have e1 : ((m : Int) != (m : Int)) = false := by simp
  have HW0 : Hid (Lay w (w.alloc (.cells (p.l n m).toArray 27)) [blkG w.heap.size (p.l n m)]) := Lib.hid ((Lay.nil w).newB (p.l n m) 27 2 rfl _ rfl)
  go_enter Try.func9, Try.ntmps9
  go_wp2
  go_loopw [26] (fun x wr => ∃ q : Nat, q ≤ n ∧ x = .int .i64 q ∧ Hid (Lay w wr [blkG w.heap.size (p.l n m)])) (fun x _ => n - (intOf x).toNat)
  case atStart => exact ⟨0, by omega, rfl, HW0⟩
  case round =>
    clear HW0
    obtain ⟨q, hq, rfl, HQ⟩ := hrel
    by_cases hlt : q < n
    · have g1 := (HR.out.to HQ.out.bel).K q hlt
      have hlq := HL.out q hlt
      have HLS := Lib.hid ((HR.out.L q hlt).below (Below.refl B w))
      generalize KS q = ks at g1 hlq HLS
      generalize p.gA q = A at g1 HLS
      generalize p.gc q = cq at g1
      obtain ⟨L, hL⟩ : ∃ L, L = ks.length := ⟨_, rfl⟩
      have HLL := Lib.hid hL
      rw [← hL] at g1 hlq
      clear hL
      obtain ⟨w6, hw6⟩ : ∃ w6, w6 = wr := ⟨_, rfl⟩
      rw [← hw6] at HQ g1 ⊢
      clear hw6
      go_wp2
      clear g1
      go_loopw [32] (fun x wr => ∃ t : Nat, t ≤ L ∧ x = .int .i64 t ∧ Hid (Lay w wr [blkG w.heap.size (p.l n m)])) (fun x _ => L - (intOf x).toNat)
      case atStart => exact ⟨0, by omega, rfl, HQ⟩
      case round =>
        clear HQ
        obtain ⟨t, ht, rfl, HQ⟩ := hrel
        by_cases htl : t < L
        · obtain ⟨ad, g, c, rfl, hbl, a0, a1, -⟩ := (HLS.out.below (HQ.out.bel.mono HR.out.le)) t (by rw [← HLL.out]; exact htl)
          go_wp2
          go_roundw
          case rel => exact ⟨t + 1, by omega, by go_num, Lib.hid (HQ.out.alloc _)⟩
          case measure => first | (simp [intOf]; done) | (simp [intOf]; omega)
        · obtain rfl : t = L := by omega
          go_wp2
          go_roundw
          case rel => exact ⟨q + 1, by omega, by go_num, HQ⟩
          case measure => first | (simp [intOf]; done) | (simp [intOf]; omega)
    · obtain rfl : q = n := by omega
      go_wp2
      go_ret
      exact ⟨rfl, HQ.out.bel⟩
/-- The moves of tells: c to 0, c from it. -/
def TM (c : Nat) : Mv := ⟨fun _ => 2, fun j => if j < c then ((j + 1 : Nat) : Int) else 0, fun j => if j < c then 0 else ((j - c + 1 : Nat) : Int), fun _ => 0⟩
theorem TM_a {c q : Nat} (h : q < c) : ∀ j, j < 4 → mvF (TM c) (q * 4 + j) = recF4 (fun _ => 2) (fun _ => ((q + 1 : Nat) : Int)) (fun _ => 0) (fun _ => 0) j := by
  intro j hj
  have h1 : (q * 4 + j) / 4 = q := by omega
  have h2 : (q * 4 + j) % 4 = j % 4 := by omega
  simp only [recF4, TM, h1, h2, if_pos h]
theorem TM_b {c q : Nat} : ∀ j, j < 4 → mvF (TM c) ((c + q) * 4 + j) = recF4 (fun _ => 2) (fun _ => 0) (fun _ => ((q + 1 : Nat) : Int)) (fun _ => 0) j := by
  intro j hj
  have h1 : ((c + q) * 4 + j) / 4 = c + q := by omega
  have h2 : ((c + q) * 4 + j) % 4 = j % 4 := by omega
  have h3 : ¬ c + q < c := by omega
  have h4 : c + q - c = q := by omega
  simp only [recF4, TM, h1, h2, h4, if_neg h3]
def tellsN (n : Int) : Nat := (min n 6 - 1).toNat
set_option maxRecDepth 100000 in
set_option maxHeartbeats 3200000 in
theorem tells_any (n : Int) (w : World) :
    Calls Try.prog 7 #[.int .i64 n] w fun e w' => ∃ A cap, e = .returned (.slice A (tellsN n + tellsN n) cap) ∧ Lay w w' [⟨A, 41, 4, tellsN n + tellsN n, cap, mvF (TM (tellsN n))⟩] := by
  obtain ⟨iM, hiM, hzM0, hzM1, hzM2⟩ := info_parts infoMove
  obtain ⟨c, hc⟩ : ∃ c, c = tellsN n := ⟨_, rfl⟩
  have hcn : ∀ q : Nat, q < c ↔ ((q + 1 : Nat) : Int) < n ∧ q + 1 < 6 := fun q => by rw [hc]; unfold tellsN; omega
  have hc5 : c ≤ 5 := by rw [hc]; unfold tellsN; omega
  rw [← hc]
  have HC := Lib.hid hcn
  clear hc hcn
  have HL0 := Lib.hid ((Lay.nil w).lnil 41 4 (mvF (TM c)))
  go_enter Try.func7, Try.ntmps7
  go_wp2
  go_loopw [3, 4] (fun l i wr => ∃ (q : Nat) (A : Option Addr) (cap : Nat), q ≤ c ∧ i = .int .i64 ((q + 1 : Nat) : Int) ∧ l = .slice A q cap ∧ Hid (Lay w wr [⟨A, 41, 4, q, cap, mvF (TM c)⟩])) (fun _ i _ => c + 1 - (intOf i).toNat)
  case atStart => exact ⟨0, none, 0, by omega, rfl, rfl, HL0⟩
  case round =>
    clear HL0
    obtain ⟨q, A, cap, hq, rfl, rfl, HL⟩ := hrel
    by_cases hqc : q < c
    · have h1 := (HC.out q).1 hqc
      have h2 := h1.1
      have h3 : ((q + 1 : Nat) : Int) < 6 := by omega
      have HTM := Lib.hid (TM_a hqc)
      clear h1
      go_wp2_with (first
        | (at_builtin; refine wpList_ap rfl (.tmp 15) (.tmp 18) _ rfl 41 iM _ 4 32 Try.underlying22 hiM hzM0 hzM1 hzM2 rfl (by omega) w.heap.size rfl ((HL.out.own 0 _ rfl).alloc _) rfl (m := 1) (g := recF4 (fun _ => 2) (fun _ => ((q + 1 : Nat) : Int)) (fun _ => 0) (fun _ => 0)) (cell_new _ _ _ _ _ rfl (mv_cells 2 ((q + 1 : Nat) : Int) 0 0)) (fun j hj => by rcases (by omega : j = 0 ∨ j = 1 ∨ j = 2 ∨ j = 3) with rfl | rfl | rfl | rfl <;> rfl) (mvF (TM c)) (fun _ _ => rfl) (fun j hj => HTM.out j (by omega)) (q + 1) rfl (by unfold maxLen; omega) (by omega) (by have := HL.out.size; simp; omega) ?_
           intro A5 c5 w5 ho hgr ha
           have H5 := Lib.hid ((HL.out.alloc _).app 0 rfl ho hgr ha)
           clear ho hgr ha)
        | fail)
      go_roundw
      case rel => exact ⟨q + 1, A5, c5, by omega, by go_num, rfl, H5⟩
      case measure => simp [intOf]; omega
    · obtain rfl : c = q := by omega
      have h1 : n ≤ ((c + 1 : Nat) : Int) ∨ ((c + 1 : Nat) : Int) < n ∧ (6 : Int) ≤ ((c + 1 : Nat) : Int) := by
        have := (not_congr (HC.out c)).1 hqc
        omega
      obtain ⟨w6, hw6⟩ : ∃ w6, w6 = wr := ⟨_, rfl⟩
      rw [← hw6] at HL ⊢
      clear hw6
      have HLz := HL
      clear HL
      rcases h1 with h1 | ⟨h1, h1'⟩
      · go_wp2
        go_loopw [3, 5] (fun l i wr => ∃ (q : Nat) (A : Option Addr) (cap : Nat), q ≤ c ∧ i = .int .i64 ((q + 1 : Nat) : Int) ∧ l = .slice A (c + q) cap ∧ Hid (Lay w wr [⟨A, 41, 4, c + q, cap, mvF (TM c)⟩])) (fun _ i _ => c + 1 - (intOf i).toNat)
        case atStart => exact ⟨0, A, cap, by omega, rfl, rfl, HLz⟩
        case round =>
          clear HLz h1
          try clear h1'
          obtain ⟨q, A, cap, hq, rfl, rfl, HL⟩ := hrel
          by_cases hqc : q < c
          · have h1 := (HC.out q).1 hqc
            have h2 := h1.1
            have h3 : ((q + 1 : Nat) : Int) < 6 := by omega
            have HTM := Lib.hid (TM_b (c := c) (q := q))
            clear h1
            go_wp2_with (first
              | (at_builtin; refine wpList_ap rfl (.tmp 29) (.tmp 32) _ rfl 41 iM _ 4 32 Try.underlying22 hiM hzM0 hzM1 hzM2 rfl (by omega) w.heap.size rfl ((HL.out.own 0 _ rfl).alloc _) rfl (m := 1) (g := recF4 (fun _ => 2) (fun _ => 0) (fun _ => ((q + 1 : Nat) : Int)) (fun _ => 0)) (cell_new _ _ _ _ _ rfl (mv_cells 2 0 ((q + 1 : Nat) : Int) 0)) (fun j hj => by rcases (by omega : j = 0 ∨ j = 1 ∨ j = 2 ∨ j = 3) with rfl | rfl | rfl | rfl <;> rfl) (mvF (TM c)) (fun _ _ => rfl) (fun j hj => HTM.out j (by omega)) (c + q + 1) rfl (by unfold maxLen; omega) (by omega) (by have := HL.out.size; simp; omega) ?_
                 intro A5 c5 w5 ho hgr ha
                 have H5 := Lib.hid ((HL.out.alloc _).app 0 rfl ho hgr ha)
                 clear ho hgr ha)
              | fail)
            go_roundw
            case rel => exact ⟨q + 1, A5, c5, by omega, by go_num, rfl, H5⟩
            case measure => simp [intOf]; omega
          · obtain rfl : q = c := by omega
            have h1 : n ≤ ((q + 1 : Nat) : Int) ∨ ((q + 1 : Nat) : Int) < n ∧ (6 : Int) ≤ ((q + 1 : Nat) : Int) := by
              have := (not_congr (HC.out q)).1 hqc
              omega
            rcases h1 with h1 | ⟨h1, h1'⟩
            · go_wp2
              all_goals (go_ret; exact ⟨_, _, rfl, HL.out⟩)
            · go_wp2
              all_goals (go_ret; exact ⟨_, _, rfl, HL.out⟩)
      · go_wp2
        go_loopw [3, 5] (fun l i wr => ∃ (q : Nat) (A : Option Addr) (cap : Nat), q ≤ c ∧ i = .int .i64 ((q + 1 : Nat) : Int) ∧ l = .slice A (c + q) cap ∧ Hid (Lay w wr [⟨A, 41, 4, c + q, cap, mvF (TM c)⟩])) (fun _ i _ => c + 1 - (intOf i).toNat)
        case atStart => exact ⟨0, A, cap, by omega, rfl, rfl, HLz⟩
        case round =>
          clear HLz h1
          try clear h1'
          obtain ⟨q, A, cap, hq, rfl, rfl, HL⟩ := hrel
          by_cases hqc : q < c
          · have h1 := (HC.out q).1 hqc
            have h2 := h1.1
            have h3 : ((q + 1 : Nat) : Int) < 6 := by omega
            have HTM := Lib.hid (TM_b (c := c) (q := q))
            clear h1
            go_wp2_with (first
              | (at_builtin; refine wpList_ap rfl (.tmp 29) (.tmp 32) _ rfl 41 iM _ 4 32 Try.underlying22 hiM hzM0 hzM1 hzM2 rfl (by omega) w.heap.size rfl ((HL.out.own 0 _ rfl).alloc _) rfl (m := 1) (g := recF4 (fun _ => 2) (fun _ => 0) (fun _ => ((q + 1 : Nat) : Int)) (fun _ => 0)) (cell_new _ _ _ _ _ rfl (mv_cells 2 0 ((q + 1 : Nat) : Int) 0)) (fun j hj => by rcases (by omega : j = 0 ∨ j = 1 ∨ j = 2 ∨ j = 3) with rfl | rfl | rfl | rfl <;> rfl) (mvF (TM c)) (fun _ _ => rfl) (fun j hj => HTM.out j (by omega)) (c + q + 1) rfl (by unfold maxLen; omega) (by omega) (by have := HL.out.size; simp; omega) ?_
                 intro A5 c5 w5 ho hgr ha
                 have H5 := Lib.hid ((HL.out.alloc _).app 0 rfl ho hgr ha)
                 clear ho hgr ha)
              | fail)
            go_roundw
            case rel => exact ⟨q + 1, A5, c5, by omega, by go_num, rfl, H5⟩
            case measure => simp [intOf]; omega
          · obtain rfl : q = c := by omega
            have h1 : n ≤ ((q + 1 : Nat) : Int) ∨ ((q + 1 : Nat) : Int) < n ∧ (6 : Int) ≤ ((q + 1 : Nat) : Int) := by
              have := (not_congr (HC.out q)).1 hqc
              omega
            rcases h1 with h1 | ⟨h1, h1'⟩
            · go_wp2
              all_goals (go_ret; exact ⟨_, _, rfl, HL.out⟩)
            · go_wp2
              all_goals (go_ret; exact ⟨_, _, rfl, HL.out⟩)
end Go.Proofs.Ytdpigpjcldcoaaa
