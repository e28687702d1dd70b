/- The walks of token.root, TreeCheck and treed. -/
import Derived.Test.YtihkbkbbllmliaaTkRoot
set_option linter.unusedVariables false
set_option linter.unusedSimpArgs false
namespace Go.Proofs.Ytihkbkbbllmliaa
open Go.RowKit

/-- What root tells. -/
def RootP (n : Nat) (u : Nat → Int) (v : Value) : Prop := (TreeOk n u ∧ ∃ r : Nat, rootsL (vN u) n = [r] ∧ v = .tuple #[.int .i64 r, .int .i64 0]) ∨ (¬ TreeOk n u ∧ ∃ c : Int, c ≠ 0 ∧ v = .tuple #[.int .i64 0, .int .i64 c])
theorem allIn_of {n : Nat} {u : Nat → Int} (h : anyTo (fun j => outB n (u j)) n = false) : AllIn n u := fun j hj => by
  have := anyTo_no.1 h j hj
  unfold outB at this
  simp at this
  omega
theorem not_in {n : Nat} {u : Nat → Int} (h : anyTo (fun j => outB n (u j)) n = true) : ¬ TreeOk n u := fun ht => by
  obtain ⟨j, hj, hb⟩ := anyTo_iff.1 h
  have := ht.ins j hj
  unfold outB at hb
  simp at hb
  omega
theorem tree_of {n : Nat} {u : Nat → Int} {r : Nat} (hin : AllIn n u) (hr : rootsL (vN u) n = [r]) (h : ∀ i, i < n → itv (vN u) n i = r) : TreeOk n u := by
  have hm : r ∈ rootsL (vN u) n := by rw [hr]; exact List.mem_singleton.2 rfl
  exact ⟨hin, by rw [hr]; rfl, fun i hi => by rw [h i hi]; exact (rootsL_mem.1 hm).2⟩
theorem not_tree {n : Nat} {u : Nat → Int} {r i : Nat} (hr : rootsL (vN u) n = [r]) (hi : i < n) (h : itv (vN u) n i ≠ r) : ¬ TreeOk n u := fun ht => by
  obtain ⟨r', h1, _, _, h2⟩ := ht.root
  rw [hr] at h1
  injection h1 with h1
  exact h (by rw [h2 i hi, h1])
def rootF (l : List Nat) (k : Nat) : Value := .int .i64 (l.getD k 0 : Nat)
theorem rootF_app (l : List Nat) (x : Nat) : (∀ j, j < l.length → rootF (l ++ [x]) j = rootF l j) ∧ ∀ j, j < 1 → rootF (l ++ [x]) (l.length + j) = .int .i64 (x : Nat) := by
  refine ⟨fun j hj => ?_, fun j hj => ?_⟩
  · unfold rootF
    rw [List.getD_eq_getElem?_getD, List.getD_eq_getElem?_getD, List.getElem?_append_left hj]
  · obtain rfl : j = 0 := by omega
    unfold rootF
    rw [Nat.add_zero, List.getD_eq_getElem?_getD, List.getElem?_append_right (Nat.le_refl _)]
    simp
set_option maxRecDepth 100000 in
set_option maxHeartbeats 1600000 in
theorem root_any (A : Option Addr) (n cap B : Nat) (u : Nat → Int) (w : World) (hn : n ≤ 6) (hB : B ≤ w.heap.size) (hr : Rd w B A n (fun j => .int .i64 (u j))) :
    Calls Try.prog 18 #[.slice A n cap] w (Gives fun v w' => RootP n u v ∧ Below w.heap.size w w') := by
  obtain ⟨iI, hiI, hzI0, hzI1, hzI2⟩ := info_parts infoIntK
  have HR := Lib.hid hr; clear hr
  obtain ⟨b, hb⟩ : ∃ b, anyTo (fun j => outB n (u j)) n = b := ⟨_, rfl⟩
  have HBB := Lib.hid hb
  clear hb
  have HL0 := Lib.hid ((Lay.nil w).newB [.slice A n cap] 36 1 rfl _ rfl)
  go_enter Try.func18, Try.ntmps18
  go_wp2_with fail
  refine at_lay (F := fun W' => Calls _ _ _ W' _) HL0.out ?_
  intro W hW
  have HW := Lib.hid hW
  clear hW HL0
  generalize w.heap.size = q at HW ⊢
  have c0 := HW.out.cellB 0 rfl 0 (by omega)
  simp only [ofL_0] at c0
  refine (contF_any b A n cap B q u W (by unfold maxLen; omega) (HR.out.below (HW.out.bel.mono hB)) c0 HBB.out).mono ?_
  rintro e w3 ⟨rfl, rfl⟩
  cases b
  · have HIN := Lib.hid (allIn_of HBB.out)
    clear HBB
    have HL : Hid (Lay w W [lst none 3 (rootsL (vN u) 0).length 0 (rootF (rootsL (vN u) 0)), blk q 36 1 (ofL [.slice A n cap])]) := Lib.hid (HW.out.lnil _ _ _)
    go_wp2
    clear c0 HW
    go_loopw [4, 13] (fun lv iv wr => ∃ (i : Nat) (A' : Option Addr) (cap' : Nat), i ≤ n ∧ iv = .int .i64 (i : Nat) ∧ lv = .slice A' (rootsL (vN u) i).length cap' ∧ Hid (Lay w wr [lst A' 3 (rootsL (vN u) i).length cap' (rootF (rootsL (vN u) i)), blk q 36 1 (ofL [.slice A n cap])])) (fun _ iv _ => n - (intOf iv).toNat)
    case atStart => exact ⟨0, none, 0, by omega, rfl, rfl, HL⟩
    case round =>
      clear HL
      obtain ⟨i, A1, cap1, hi, rfl, rfl, HL⟩ := hrel
      have hlr : (rootsL (vN u) i).length ≤ i := by
        unfold rootsL
        exact Nat.le_trans (List.length_filter_le _ _) (by simp)
      have HRW := Lib.hid (HR.out.below (HL.out.bel.mono hB))
      have HNX := Lib.hid (rootsL_next (vN u) i)
      have hz := HL.out.size
      by_cases hlt : i < n
      · obtain ⟨ad, rfl, _, hc⟩ := HRW.out (by omega)
        have hci : wr.cell? (ad.add i) = some (.int .i64 (u i)) := hc i hlt
        have hin := HIN.out i hlt
        clear hc
        by_cases he : u i = (i : Int)
        · rw [if_pos (show vN u i = i by unfold vN; omega)] at HNX
          rw [he] at hci
          have HAP := Lib.hid (rootF_app (rootsL (vN u) i) i)
          clear he hin
          go_wp2_with (at_builtin; refine wpList_ap1 rfl (.tmp 21) (.tmp 23) _ rfl 3 iI _ 8 Try.underlying36 hiI hzI0 hzI1 hzI2 rfl w.heap.size rfl ((HL.out.alloc _).own 0 _ rfl) rfl (cell_new _ _ _ _ _ rfl (one_cell _)) (fun _ _ => rfl) (rootF (rootsL (vN u) i ++ [i])) HAP.out.1 HAP.out.2 ((rootsL (vN u) i).length + 1) rfl (by unfold maxLen; omega) (by omega) (by have := HL.out.size; simp; omega) ?_; intro A2 cap2 w4 ho hg ha
                       have H4 := Lib.hid ((HL.out.alloc _).app 0 rfl ho hg ha)
                       clear ho hg ha)
          have HLE : Hid ((rootsL (vN u) (i + 1)).length = (rootsL (vN u) i).length + 1) := Lib.hid (by rw [HNX.out, List.length_append]; rfl)
          go_roundw
          case rel => exact ⟨i + 1, A2, cap2, by omega, by go_num, by rw [HLE.out], by rw [HLE.out, HNX.out]; exact H4⟩
          case measure => simp [intOf]; omega
        · rw [if_neg (show ¬ vN u i = i by unfold vN; omega)] at HNX
          have e1 : ((i : Int) == u i) = false := by rw [beq_eq_false_iff_ne]; exact fun h => he h.symm
          clear he hin
          go_wp2
          go_roundw
          case rel => exact ⟨i + 1, A1, cap1, by omega, by go_num, by rw [HNX.out], by rw [HNX.out]; exact HL⟩
          case measure => simp [intOf]; omega
      · obtain rfl : i = n := by omega
        clear HNX
        have c0 : wr.cell? ⟨q, 0, none⟩ = some (.slice A i cap) := HL.out.cellB 1 rfl 0 (by omega)
        by_cases h1 : (rootsL (vN u) i).length = 1
        · obtain ⟨r, hr⟩ := List.length_eq_one_iff.1 h1
          have HRT := Lib.hid hr
          rw [hr] at HL ⊢
          obtain ⟨g1, rfl, -, hg1, hc1, -⟩ := (HL.out.own 0 _ rfl).pos1 (show 0 < 1 by omega)
          have r0 : wr.cell? ⟨g1, 0, none⟩ = some (.int .i64 (r : Nat)) := hc1 0 (by simp)
          have HBL := Lib.hid HL.out.bel
          have hin0 : 0 < i := by
            have hm : r ∈ rootsL (vN u) i := by rw [hr]; exact List.mem_singleton.2 rfl
            have := (rootsL_mem.1 hm).1
            omega
          obtain ⟨ad, rfl, hadb, hc⟩ := HRW.out hin0
          have HC := Lib.hid hc
          clear hc1 hc hr h1 hlr
          show Code.wp _ _ _ _ wr
          go_wp2
          go_loopw [31] (fun iv wr2 => ∃ k : Nat, k ≤ i ∧ iv = .int .i64 (k : Nat) ∧ Hid (∀ j, j < k → itv (vN u) i j = r) ∧ wr2 = wr) (fun iv _ => i - (intOf iv).toNat)
          case atStart => exact ⟨0, by omega, rfl, Lib.hid (fun j hj => absurd hj (by omega)), rfl⟩
          case round =>
            obtain ⟨k, hk, rfl, HA, rfl⟩ := hrel
            by_cases hki : k < i
            · go_wp2
              go_loopw [7, 36] (fun xv mv wr2 => ∃ m : Nat, m ≤ i ∧ mv = .int .i64 (m : Nat) ∧ xv = .int .i64 (itv (vN u) m k : Nat) ∧ wr2 = wr) (fun _ mv _ => i - (intOf mv).toNat)
              case atStart => exact ⟨0, by omega, rfl, rfl, rfl⟩
              case round =>
                obtain ⟨m, hm, rfl, rfl, rfl⟩ := hrel
                have hx := itv_lt HIN.out hki m
                by_cases hmi : m < i
                · have hcx := HC.out _ hx
                  rw [vN_int HIN.out hx] at hcx
                  have HNX : Hid (itv (vN u) (m + 1) k = vN u (itv (vN u) m k)) := Lib.hid rfl
                  generalize itv (vN u) m k = x at hx hcx HNX ⊢
                  go_wp2
                  go_roundw
                  case rel => exact ⟨m + 1, by omega, by go_num, by rw [HNX.out], by first | rfl | trivial⟩
                  case measure => simp [intOf]; omega
                · obtain rfl : m = i := by omega
                  by_cases hxr : itv (vN u) m k = r
                  · have HXR := Lib.hid hxr
                    rw [hxr]
                    clear hxr hx
                    go_wp2
                    go_roundw
                    case rel => exact ⟨k + 1, by omega, by go_num, Lib.hid (fun j hj => (Nat.lt_succ_iff_lt_or_eq.1 hj).elim (HA.out j) (fun e => by subst e; exact HXR.out)), by first | rfl | trivial⟩
                    case measure => simp [intOf]; omega
                  · have HNT := Lib.hid (not_tree HRT.out hki hxr)
                    have e1 : ((itv (vN u) m k : Int) != (r : Int)) = true := by rw [bne_iff_ne]; omega
                    generalize itv (vN u) m k = x at hx e1 ⊢
                    clear hxr
                    go_wp2
                    go_ret2
                    exact ⟨_, rfl, .inr ⟨HNT.out, 3, by decide, rfl⟩, HBL.out⟩
            · obtain rfl : k = i := by omega
              have HT := Lib.hid (tree_of HIN.out HRT.out HA.out)
              go_wp2
              go_ret2
              exact ⟨_, rfl, .inl ⟨HT.out, r, HRT.out, rfl⟩, HBL.out⟩
        · have HN : Hid (¬ TreeOk i u) := Lib.hid fun ht => h1 ht.one
          have e1 : (((rootsL (vN u) i).length : Int) != 1) = true := by rw [bne_iff_ne]; omega
          generalize (rootsL (vN u) i).length = ll at e1 hlr ⊢
          go_wp2
          go_ret2
          exact ⟨_, rfl, .inr ⟨HN.out, 3, by decide, rfl⟩, HL.out.bel⟩
  · have HN := Lib.hid (not_in HBB.out)
    go_wp2
    go_ret2
    exact ⟨_, rfl, .inr ⟨HN.out, 2, by decide, rfl⟩, HW.out.bel⟩
end Go.Proofs.Ytihkbkbbllmliaa
