/- The walk of write. -/
import Derived.Test.YtdpigpjcldcoaaaGo3
set_option linter.unusedVariables false
set_option linter.unusedSimpArgs false
namespace Go.Proofs.Ytdpigpjcldcoaaa
open Go.RowKit

theorem infoIntG : (Try.prog.info? 3).map (fun i => (i.zero, i.size, i.bytes)) = some (some (.int .i64 0), 1, 8) := by kernel_rfl
/-- The greatest, u numbers on. -/
def maxU (l : List Kn) (k u : Nat) (t : Nat) : Nat := if t < u then maxT l (k + 1) t else maxT l k t
theorem maxU_0 (l : List Kn) (k : Nat) : maxU l k 0 = maxT l k := by funext t; simp [maxU]
theorem maxU_step (l : List Kn) (k u : Nat) : upd (maxU l k u) u (max (maxT l k u) ((knAt l k).vec u)) = maxU l k (u + 1) := by
  funext t
  by_cases h : t = u
  · subst h; simp [upd, maxU, maxT]
  · have : (t < u + 1) = (t < u) := by simp; omega
    simp [upd, maxU, h, this]
abbrev arrV (g n : Nat) (f : Nat → Nat) : LRow := arr g 3 n (fun t => .int .i64 (f t : Nat))

set_option maxRecDepth 100000 in
set_option maxHeartbeats 3200000 in
theorem write_any (pl gk gw n : Nat) (K : Nat → Value) (wr0 : Nat → Nat) (R VR : List LRow) (w0 w : World) (kn : Nat → List Kn) (i : Nat) (val : Int) (hn : n ≤ 6) (hi : i < n) (hl : ∀ i, i < n → (kn i).length ≤ 100) (hwr : wr0 i ≤ 1000) (h : Lay w0 w (rowsG pl gk gw n K wr0 R VR)) (hk : ∀ i, i < n → KnI VR n (K i) (kn i)) :
    Calls Try.prog 25 #[.pointer (some ⟨pl, 0, none⟩), .int .i64 (i : Nat), .int .i64 val] w fun e w' => e = .returned (.tuple #[]) ∧ ∃ v VR', RowsIn VR VR' ∧ Lay w0 w' (rowsG pl gk gw n (upd K i v) (upd wr0 i (wr0 i + 1)) R VR') ∧ KnI VR' n v [⟨val, fun j => if j = i then wr0 i + 1 else maxV (kn i) j⟩] := by
  obtain ⟨iI, hiI, hzI0, hzI1, hzI2⟩ := info_parts infoIntG
  have HL := Lib.hid h; clear h
  have c0 := HL.out.cellB 0 rfl 0 (by omega)
  have d0 := HL.out.cell1 1 rfl (j := i) hi
  have hb := (HL.out.at_ 0 rfl).2
  have hbk := (HL.out.at_ 1 rfl).2
  have HKI := Lib.hid (hk i hi)
  have hll := hl i hi
  simp only [ofL_0] at c0
  clear hk hl
  obtain ⟨L0, hL0⟩ : ∃ L0, L0 = kn i := ⟨_, rfl⟩
  obtain ⟨m, hm⟩ : ∃ m, m = L0.length := ⟨_, rfl⟩
  rw [← hL0] at HKI hll
  have HM := Lib.hid hm
  have HLK := Lib.hid hL0
  rw [← hm] at hll
  obtain ⟨kk, A1, c1, F1, hq1, hq2, hq3⟩ := HKI.out
  rw [hq2, ← hm] at d0
  have HQ1 := Lib.hid hq1
  have HF := Lib.hid hq3
  rw [← hm] at HQ1
  clear hq1 hq2 hq3 hm hL0 HKI
  go_enter Try.func25, Try.ntmps25
  go_wp2_with (first
    | (at_make; refine wpList_mk1 rfl (.tmp 15) (.tmp 15) _ rfl 3 iI _ 8 Try.underlying36 hiI hzI0 hzI1 hzI2 rfl .i64 .i64 n rfl rfl (by omega) (by unfold maxLen; omega) w.heap.size _ rfl (Nat.le_refl _) ?_
       intro w2 _ hw2
       have HL2 : Hid (Lay w0 w2 (arrV w.heap.size n (maxT L0 0) :: rowsG pl gk gw n K wr0 R VR)) := Lib.hid (by rw [hw2]; exact HL.out.make (.int .i64 0) rfl n (by unfold maxLen; omega) 3 (fun t => .int .i64 (maxT L0 0 t : Nat)) (fun j hj => rfl) _ rfl)
       have c0 := HL2.out.cellB 1 rfl 0 (by omega)
       have d0 : w2.cell? ⟨gk, i, none⟩ = some (.slice A1 m c1) := by rw [hw2]; exact (World.cell?_alloc_lt w _ _ hbk).trans d0
       have hb := (HL2.out.at_ 1 rfl).2
       have hbk := (HL2.out.at_ 2 rfl).2
       simp only [ofL_0] at c0
       clear hw2)
    | fail)
  generalize w.heap.size = gv at HL2 ⊢
  clear HL
  go_loopw [25] (fun s wr => ∃ k : Nat, k ≤ m ∧ s = .int .i64 (k : Nat) ∧ Hid (Lay w0 wr (arrV gv n (maxT L0 k) :: rowsG pl gk gw n K wr0 R VR))) (fun i _ => m - (intOf i).toNat)
  case atStart => exact ⟨0, by omega, rfl, HL2⟩
  case round =>
    obtain ⟨k, hk, rfl, HL⟩ := hrel
    clear HL2 c0 d0 hb hbk
    by_cases hkm : k < m
    · obtain ⟨adA, gq, cq, rfl, hbA, e0, e1, hvk⟩ := HF.out.at_ (w := wr) (B := wr.heap.size) (A := A1) (by rw [← HM.out]; exact (HL.out.one (_ :: _ :: _ :: _ :: R) HQ1.out).rd) (i := k) (by rw [← HM.out]; exact hkm)
      have HVK := Lib.hid hvk
      clear hvk
      have HL5 := Lib.hid (HL.out.alloc (.cells #[.int .i64 (knAt L0 k).val, .slice (some ⟨gq, 0, none⟩) n cq] 38))
      obtain ⟨w6, rfl⟩ : ∃ w6, w6 = wr := ⟨_, rfl⟩
      go_wp2
      go_loopw [32] (fun s wr => ∃ u : Nat, u ≤ n ∧ s = .int .i64 (u : Nat) ∧ Hid (Lay w0 wr (arrV gv n (maxU L0 k u) :: rowsG pl gk gw n K wr0 R VR))) (fun i _ => n - (intOf i).toNat)
      case atStart => exact ⟨0, by omega, rfl, Lib.hid (by rw [maxU_0]; exact HL5.out)⟩
      case round =>
        clear HL5 HL e0 e1 hbA
        obtain ⟨u, hu, rfl, HL⟩ := hrel
        by_cases hun : u < n
        · obtain ⟨adq, eq, hbq, hcq⟩ := (HVK.out.rdG (_ :: _ :: _ :: _ :: R) HL.out) (by omega)
          have x0 := hcq u hun
          injection eq with eq
          subst eq
          have x0 : wr.cell? ⟨gq, u, none⟩ = some (.int .i64 ((knAt L0 k).vec u : Nat)) := by rwa [show (⟨gq, 0, none⟩ : Addr).add u = ⟨gq, u, none⟩ by unfold Addr.add; split <;> simp_all] at x0
          have HMX : Hid ((if maxT L0 k u < (knAt L0 k).vec u then (((knAt L0 k).vec u : Nat) : Int) else ((maxT L0 k u : Nat) : Int)) = ((max (maxT L0 k u) ((knAt L0 k).vec u) : Nat) : Int)) := Lib.hid (by rw [Nat.max_def]; split <;> split <;> omega)
          have x1 := HL.out.cell1 0 rfl (j := u) hun
          have z1 := HL.out.frz 0 rfl (by omega) u
          have hgv := (HL.out.at_ 0 rfl).2
          have hmx : maxU L0 k u u = maxT L0 k u := by simp [maxU]
          have HN := Lib.hid (maxU_step L0 k u)
          rw [hmx] at x1
          have HL6 := Lib.hid (HL.out.upd (mk := fun x : Nat => .int .i64 (x : Nat)) 0 (max (maxT L0 k u) ((knAt L0 k).vec u)) rfl hun)
          clear hmx hcq
          go_wp2
          go_roundw
          case rel => exact ⟨u + 1, by omega, by go_num, Lib.hid (by rw [← HN.out, HMX.out]; exact HL6.out)⟩
          case measure => simp [intOf]; omega
        · obtain rfl : u = n := by omega
          have HL6 : Hid (Lay w0 wr (arrV gv u (maxT L0 (k + 1)) :: rowsG pl gk gw u K wr0 R VR)) := Lib.hid (HL.out.congr 0 (fun t => .int .i64 (maxT L0 (k + 1) t : Nat)) rfl (fun j hj => by
            have hj : j < u * 1 := hj
            show Value.int .i64 (maxU L0 k u j : Nat) = .int .i64 (maxT L0 (k + 1) j : Nat)
            unfold maxU; rw [if_pos (by omega)]))
          clear HL
          go_wp2
          go_roundw
          case rel => exact ⟨k + 1, by omega, by go_num, HL6⟩
          case measure => simp [intOf]; omega
    · obtain rfl : k = m := by omega
      have c0 := HL.out.cellB 1 rfl 0 (by omega)
      have c1' := HL.out.cellB 1 rfl 1 (by omega)
      have x1 := HL.out.cell1 3 rfl (j := i) hi
      have x2 := HL.out.cell1 2 rfl (j := i) hi
      have x3 := HL.out.cell1 0 rfl (j := i) hi
      have zv := HL.out.frz 0 rfl (by omega) i
      have zk := HL.out.frz 2 rfl (by omega) i
      have zw := HL.out.frz 3 rfl (by omega) i
      have n01 := HL.out.ne_ 0 1 rfl rfl (by decide)
      have n02 := HL.out.ne_ 0 2 rfl rfl (by decide)
      have n03 := HL.out.ne_ 0 3 rfl rfl (by decide)
      have n12 := HL.out.ne_ 1 2 rfl rfl (by decide)
      have n13 := HL.out.ne_ 1 3 rfl rfl (by decide)
      have n23 := HL.out.ne_ 2 3 rfl rfl (by decide)
      have g0 := (HL.out.at_ 0 rfl).2
      have g1 := (HL.out.at_ 1 rfl).2
      have g2 := (HL.out.at_ 2 rfl).2
      have g3 := (HL.out.at_ 3 rfl).2
      simp only [ofL_0, ofL_1] at c0 c1'
      go_wp2
      go_end0
      have h1 := HL.out.upd (mk := fun x : Nat => .int .i64 (x : Nat)) 3 (wr0 i + 1) rfl hi
      have h2 := h1.upd (mk := fun x : Nat => .int .i64 (x : Nat)) 0 (wr0 i + 1) rfl hi
      have h3 := h2.upd (mk := fun v => v) 2 (.slice (some ⟨wr.heap.size, 0, none⟩) 1 1) rfl hi
      have h4 := h3.newB [.int .i64 val, .slice (some ⟨gv, 0, none⟩) n n] 38 2 rfl wr.heap.size (by simp)
      have h5 := (h4.into (P := _ :: _ :: _ :: _ :: R)).into (P := _ :: _ :: _ :: R)
      have hv : upd (maxT L0 k) i (wr0 i + 1) = fun j => if j = i then wr0 i + 1 else maxV (kn i) j := by rw [HM.out, HLK.out]; rfl
      rw [hv] at h5
      refine ⟨rfl, _, _, (RowsIn.cons _ VR).trans (RowsIn.cons _ _), h5, 1, some ⟨wr.heap.size, 0, none⟩, 1, _, rfl, rfl, fun q hq => ?_⟩
      obtain rfl : q = 0 := by simpa using hq
      exact ⟨rfl, InV.zero _ _ _ _ _⟩
end Go.Proofs.Ytdpigpjcldcoaaa
