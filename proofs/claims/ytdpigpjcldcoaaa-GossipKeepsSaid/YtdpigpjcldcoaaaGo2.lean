/- The walks of slices.Grow and slices.Concat at []Known; lists of what one knows, in memory. -/
import Derived.Test.YtdpigpjcldcoaaaGoMath
import Derived.Test.YtdpigpjcldcoaaaLayV
import Derived.Lib.AppendZeros
set_option linter.unusedVariables false
set_option linter.unusedSimpArgs false
namespace Go.Proofs.Ytdpigpjcldcoaaa
open Go.RowKit

/-- What one knows, cell by cell. -/
def KnF (VR : List LRow) (n : Nat) (ks : List Kn) (F : Nat → Value) : Prop := ∀ i, i < ks.length → F (i * 2) = .int .i64 (knAt ks i).val ∧ InV VR n (F (i * 2 + 1)) (knAt ks i).vec
def KnI (VR : List LRow) (n : Nat) (v : Value) (ks : List Kn) : Prop := ∃ (k : Nat) (A : Option Addr) (cap : Nat) (F : Nat → Value), VR[k]? = some ⟨A, 38, 2, ks.length, cap, F⟩ ∧ v = .slice A ks.length cap ∧ KnF VR n ks F
theorem KnF.sub {VR VR' : List LRow} {n : Nat} {ks : List Kn} {F : Nat → Value} (h : KnF VR n ks F) (hs : RowsIn VR VR') : KnF VR' n ks F := fun i hi => ⟨(h i hi).1, (h i hi).2.sub hs⟩
theorem KnI.sub {VR VR' : List LRow} {n : Nat} {v : Value} {ks : List Kn} (h : KnI VR n v ks) (hs : RowsIn VR VR') : KnI VR' n v ks := by
  obtain ⟨k, A, cap, F, h1, h2, h3⟩ := h
  obtain ⟨k', h4⟩ := hs k _ h1
  exact ⟨k', A, cap, F, h4, h2, h3.sub hs⟩
theorem KnF.one {VR : List LRow} {n : Nat} {ks : List Kn} {F : Nat → Value} (h : KnF VR n ks F) : ∀ j, j < ks.length * 2 → (F j).oneCell' = true := by
  intro j hj
  obtain ⟨h1, h2⟩ := h (j / 2) (by omega)
  rcases (by omega : j = j / 2 * 2 ∨ j = j / 2 * 2 + 1) with e | e
  · rw [e, h1]; rfl
  · obtain ⟨_, _, _, _, h4⟩ := h2
    rw [e, h4]; rfl
theorem KnI.rd {w0 w : World} {VR : List LRow} {n : Nat} {v : Value} {ks : List Kn} (h : KnI VR n v ks) (P : List LRow) (hL : Lay w0 w (P ++ VR)) : ∃ (A : Option Addr) (cap : Nat) (F : Nat → Value), v = .slice A ks.length cap ∧ Rd w w.heap.size A (ks.length * 2) F ∧ KnF VR n ks F := by
  obtain ⟨k, A, cap, F, h1, h2, h3⟩ := h
  exact ⟨A, cap, F, h2, (hL.one P h1).rd, h3⟩
theorem knAt_app_l {a b : List Kn} {i : Nat} (h : i < a.length) : knAt (a ++ b) i = knAt a i := by
  simp [knAt, List.getD_eq_getElem?_getD, List.getElem?_append_left h]
theorem knAt_app_r {a b : List Kn} {i : Nat} (h : a.length ≤ i) : knAt (a ++ b) i = knAt b (i - a.length) := by
  simp [knAt, List.getD_eq_getElem?_getD, List.getElem?_append_right h]
def catF (m : Nat) (F G : Nat → Value) (j : Nat) : Value := if j < m then F j else G (j - m)
theorem KnF.cat {VR : List LRow} {n : Nat} {a b : List Kn} {F G : Nat → Value} (h : KnF VR n a F) (h' : KnF VR n b G) : KnF VR n (a ++ b) (catF (a.length * 2) F G) := by
  intro i hi
  rw [List.length_append] at hi
  by_cases h1 : i < a.length
  · rw [knAt_app_l h1]
    unfold catF
    rw [if_pos (by omega), if_pos (by omega)]
    exact h i h1
  · rw [knAt_app_r (by omega)]
    unfold catF
    rw [if_neg (by omega), if_neg (by omega), show i * 2 - a.length * 2 = (i - a.length) * 2 by omega, show i * 2 + 1 - a.length * 2 = (i - a.length) * 2 + 1 by omega]
    exact h' (i - a.length) (by omega)
theorem infoKn : (Try.prog.info? 38).map (fun i => (i.zero, i.size, i.bytes)) = some (some (.agg #[.int .i64 0, .slice none 0 0]), 2, 32) := by kernel_rfl
theorem Own.to0 {w : World} {base : Nat} {e : TypeId} {size : Nat} {A : Option Addr} {n cap : Nat} {f : Nat → Value} (h : Own w base e size A n cap f) (F : Nat → Value) : Own w base e size A 0 cap F := by
  rcases h with ⟨rfl, h0, h1⟩ | ⟨g, cur, rfl, hb, hg, h1, h2, h3, hf⟩
  · exact .inl ⟨rfl, rfl, h1⟩
  · exact .inr ⟨g, cur, rfl, hb, hg, by omega, h2, h3, fun j hj => absurd hj (by rw [Nat.zero_mul]; omega)⟩
theorem grown_new (w : World) (z : Value) (n c size : Nat) (e : TypeId) (hz : z.cells.size = size) (hn : n ≤ c) (hc : c ≤ maxLen) (F : Nat → Value) : Lay w (w.drew.alloc (.cells (Builtin.zeroCells z.cells n ++ Builtin.zeroCells z.cells (c - n)) e)) [⟨some ⟨w.heap.size, 0, none⟩, e, size, 0, c, F⟩] := by
  have hL := ((Lay.nil w).drew.alloc (.cells (Builtin.zeroCells z.cells n ++ Builtin.zeroCells z.cells (c - n)) e)).cons (r := ⟨some ⟨w.heap.size, 0, none⟩, e, size, 0, c, F⟩) ?_ (fun _ _ hi => by simp at hi)
  · exact hL
  · refine .inr ⟨w.heap.size, _, rfl, Nat.le_refl _, heap_alloc_new w.drew _, Nat.zero_le _, hc, ?_, fun j hj => absurd hj (by rw [Nat.zero_mul]; omega)⟩
    simp only [Array.size_append, size_zeroCells, hz]
    rw [← Nat.add_mul]; congr 1; omega

set_option maxHeartbeats 800000 in
theorem grow_any (n : Nat) (hn : n ≤ 1000) (w : World) (F : Nat → Value) :
    Calls Try.prog 41 #[.slice none 0 0, .int .i64 (n : Nat)] w fun e w' => ∃ A c, e = .returned (.slice A 0 c) ∧ Lay w w' [⟨A, 38, 2, 0, c, F⟩] := by
  obtain ⟨iO, hiO, hz0, hz1, hz2⟩ := info_parts infoKn
  by_cases hn0 : n = 0
  · subst hn0
    go_enter Try.func41, Try.ntmps41
    go_wp2
    go_ret
    exact ⟨none, 0, rfl, (Lay.nil w).lnil _ _ _⟩
  · have hc0 := grownCap_ge w n 0 38
    have hc1 := grownCap_le_maxLen w n 0 38 (by unfold maxLen; omega)
    have HL := Lib.hid (grown_new w (.agg #[.int .i64 0, .slice none 0 0]) n (grownCap w n 0 38) 2 38 rfl hc0 hc1 F)
    have hrun := Lib.run_append_nil_zeros (P := Try.prog) w 33 3 33 38 iO _ .i64 .i64 Try.underlying33 Try.underlying3 hiO hz0 n (by omega) (by omega) (by omega) (by rw [hz2]; omega)
    generalize grownCap w n 0 38 = c at *
    generalize w.drew.alloc (.cells (Builtin.zeroCells (Value.agg #[.int .i64 0, .slice none 0 0]).cells n ++ Builtin.zeroCells (Value.agg #[.int .i64 0, .slice none 0 0]).cells (c - n)) 38) = w1 at *
    clear hc1
    go_enter Try.func41, Try.ntmps41
    go_wp2_with (first | (at_builtin; refine Lib.wpList_append_run w rfl (.tmp 20) (.tmp 21) _ _ rfl _ _ rfl rfl _ _ hrun ?_) | fail)
    go_ret
    exact ⟨_, c, rfl, HL.out⟩
set_option maxRecDepth 100000 in
set_option maxHeartbeats 1600000 in
theorem concat_any (g : Nat) (A1 A2 : Option Addr) (n1 n2 c1 c2 B : Nat) (F1 F2 : Nat → Value) (w : World) (h1 : n1 ≤ 500) (h2 : n2 ≤ 500) (hg : g < w.heap.size) (hB : B ≤ w.heap.size) (hc0 : w.cell? ⟨g, 0, none⟩ = some (.slice A1 n1 c1)) (hc1 : w.cell? ⟨g, 1, none⟩ = some (.slice A2 n2 c2)) (hr1 : Rd w B A1 (n1 * 2) F1) (hr2 : Rd w B A2 (n2 * 2) F2) (ho1 : ∀ j, j < n1 * 2 → (F1 j).oneCell' = true) (ho2 : ∀ j, j < n2 * 2 → (F2 j).oneCell' = true) :
    Calls Try.prog 29 #[.slice (some ⟨g, 0, none⟩) 2 2] w fun e w' => ∃ A c, e = .returned (.slice A (n1 + n2) c) ∧ Lay w w' [⟨A, 38, 2, n1 + n2, c, catF (n1 * 2) F1 F2⟩] := by
  obtain ⟨iO, hiO, hz0, hz1, hz2⟩ := info_parts infoKn
  have HR1 := Lib.hid hr1; clear hr1
  have HR2 := Lib.hid hr2; clear hr2
  have HO1 := Lib.hid ho1; clear ho1
  have HO2 := Lib.hid ho2; clear ho2
  have HC0 := Lib.hid hc0
  have HC1 := Lib.hid hc1
  go_enter Try.func29, Try.ntmps29
  go_wp2
  go_loop [3, 11] (fun s i => ∃ k : Nat, k ≤ 2 ∧ i = .int .i64 (k : Nat) ∧ s = .int .i64 ((if k = 0 then 0 else if k = 1 then n1 else n1 + n2 : Nat) : Nat)) (fun _ i => 2 - (intOf i).toNat)
  case atStart => exact ⟨0, by omega, rfl, rfl⟩
  case round =>
    obtain ⟨k, hk, rfl, rfl⟩ := hrel
    rcases (by omega : k = 0 ∨ k = 1 ∨ k = 2) with rfl | rfl | rfl
    · go_wp2
      go_round
      case rel => exact ⟨1, by omega, by go_num, by simp⟩
      case measure => simp [intOf]
    · simp only [show ¬ (1 = 0) by omega, if_false, if_true]
      go_wp2
      go_round
      case rel => exact ⟨2, by omega, by go_num, by simp⟩
      case measure => simp [intOf]
    · simp only [show ¬ (2 = 0) by omega, show ¬ (2 = 1) by omega, if_false]
      clear hc0 hc1
      go_wp2_with (first | (go_at_call 41; refine (grow_any (n1 + n2) (by omega) w (catF (n1 * 2) F1 F2)).mono ?_; rintro e w3 ⟨A3, c3, rfl, h3⟩; have HL3 := Lib.hid h3; clear h3) | fail)
      go_loopw [6, 27] (fun s i wr => ∃ (k : Nat) (A : Option Addr) (c : Nat), k ≤ 2 ∧ i = .int .i64 (k : Nat) ∧ s = .slice A (if k = 0 then 0 else if k = 1 then n1 else n1 + n2) c ∧ Hid (Lay w wr [⟨A, 38, 2, (if k = 0 then 0 else if k = 1 then n1 else n1 + n2), c, catF (n1 * 2) F1 F2⟩])) (fun _ i _ => 2 - (intOf i).toNat)
      case atStart => exact ⟨0, A3, c3, by omega, rfl, rfl, HL3⟩
      case round =>
        obtain ⟨k, A4, c4, hk, rfl, rfl, HL4⟩ := hrel
        have HB4 := Lib.hid HL4.out.bel
        have HD0 := Lib.hid ((World.cell?_of_block (HB4.out.block g hg)).trans HC0.out)
        have HD1 := Lib.hid ((World.cell?_of_block (HB4.out.block g hg)).trans HC1.out)
        rcases (by omega : k = 0 ∨ k = 1 ∨ k = 2) with rfl | rfl | rfl
        · have d0 := HD0.out
          simp only [if_true] at HL4 ⊢
          go_wp2_with (first
            | (at_builtin; refine wpList_ap rfl (.tmp 31) (.tmp 32) _ rfl 38 iO _ 2 32 Try.underlying33 hiO hz0 hz1 hz2 rfl (by omega) w.heap.size rfl (HL4.out.own 0 _ rfl) rfl (HR1.out.below (HB4.out.mono hB)) HO1.out (catF (n1 * 2) F1 F2) (fun j hj => rfl) (fun j hj => by unfold catF; rw [Nat.zero_mul, Nat.zero_add, if_pos hj]) n1 (by omega) (by unfold maxLen; omega) (by omega) HB4.out.size ?_
               intro A5 c5 w5 ho hgr ha
               have HL5 := Lib.hid (HL4.out.app 0 rfl ho hgr ha)
               clear ho hgr ha)
            | fail)
          go_roundw
          case rel => exact ⟨1, A5, c5, by omega, by go_num, by simp, Lib.hid (by simpa using HL5.out)⟩
          case measure => simp [intOf]
        · have d1 := HD1.out
          simp only [show ¬ (1 = 0) by omega, if_false, if_true] at HL4 ⊢
          go_wp2_with (first
            | (at_builtin; refine wpList_ap rfl (.tmp 31) (.tmp 32) _ rfl 38 iO _ 2 32 Try.underlying33 hiO hz0 hz1 hz2 rfl (by omega) w.heap.size rfl (HL4.out.own 0 _ rfl) rfl (HR2.out.below (HB4.out.mono hB)) HO2.out (catF (n1 * 2) F1 F2) (fun j hj => rfl) (fun j hj => by unfold catF; rw [if_neg (by omega), Nat.add_sub_cancel_left]) (n1 + n2) rfl (by unfold maxLen; omega) (by omega) HB4.out.size ?_
               intro A5 c5 w5 ho hgr ha
               have HL5 := Lib.hid (HL4.out.app 0 rfl ho hgr ha)
               clear ho hgr ha)
            | fail)
          go_roundw
          case rel => exact ⟨2, A5, c5, by omega, by go_num, by simp, Lib.hid (by simpa using HL5.out)⟩
          case measure => simp [intOf]
        · simp only [show ¬ (2 = 0) by omega, show ¬ (2 = 1) by omega, if_false] at HL4 ⊢
          go_wp2
          go_ret
          exact ⟨A4, c4, rfl, HL4.out⟩
end Go.Proofs.Ytdpigpjcldcoaaa
