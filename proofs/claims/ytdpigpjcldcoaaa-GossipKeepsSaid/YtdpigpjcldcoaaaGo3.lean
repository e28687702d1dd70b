/- The walk of tell. -/
import Derived.Test.YtdpigpjcldcoaaaGo1
import Derived.Test.YtdpigpjcldcoaaaGo2
import Derived.Test.YtdpigpjcldcoaaaText
import Derived.Test.YtdpigpjcldcoaaaRec2
set_option linter.unusedVariables false
set_option linter.unusedSimpArgs false
namespace Go.Proofs.Ytdpigpjcldcoaaa
open Go.RowKit

abbrev rowsG (pl gk gw n : Nat) (K : Nat → Value) (wr : Nat → Nat) (R VR : List LRow) : List LRow :=
  blk pl 47 2 (ofL [.slice (some ⟨gk, 0, none⟩) n n, .slice (some ⟨gw, 0, none⟩) n n]) :: arr gk 33 n K :: arr gw 3 n (fun i => .int .i64 (wr i : Nat)) :: (R ++ VR)
abbrev blkK (b : Nat) (x v : Value) : LRow := blk b 38 2 (ofL [x, v])
abbrev rowK (A : Option Addr) (m c : Nat) (F : Nat → Value) : LRow := ⟨A, 38, 2, m, c, F⟩
theorem KnF.at_ {VR : List LRow} {n : Nat} {ks : List Kn} {F : Nat → Value} {w : World} {B : Nat} {A : Option Addr} (h : KnF VR n ks F) (hr : Rd w B A (ks.length * 2) F) {i : Nat} (hi : i < ks.length) :
    ∃ ad g c, A = some ad ∧ ad.block < B ∧ w.cell? (ad.add (i * 2)) = some (.int .i64 (knAt ks i).val) ∧ w.cell? ⟨(ad.add (i * 2)).block, (ad.add (i * 2)).off + 1, none⟩ = some (.slice (some ⟨g, 0, none⟩) n c) ∧ InV VR n (.slice (some ⟨g, 0, none⟩) n c) (knAt ks i).vec := by
  obtain ⟨ad, e, hb, hc⟩ := hr (by omega)
  have h0 := hc (i * 2) (by omega)
  have h1 := hc (i * 2 + 1) (by omega)
  rw [← addr_add] at h1
  rw [(h i hi).1] at h0
  have hv := (h i hi).2
  obtain ⟨_, g, c, _, e2⟩ := (h i hi).2
  rw [e2] at h1 hv
  exact ⟨ad, g, c, e, hb, h0, h1, hv⟩

set_option maxRecDepth 100000 in
set_option maxHeartbeats 3200000 in
theorem tell_any (pl gk gw n : Nat) (K : Nat → Value) (wr0 : Nat → Nat) (R VR : List LRow) (w0 w : World) (kn : Nat → List Kn) (f t : Nat) (hn : n ≤ 6) (hf : f < n) (ht : t < n) (hl : ∀ i, i < n → (kn i).length ≤ 100) (h : Lay w0 w (rowsG pl gk gw n K wr0 R VR)) (hk : ∀ i, i < n → KnI VR n (K i) (kn i)) :
    Calls Try.prog 24 #[.pointer (some ⟨pl, 0, none⟩), .int .i64 (f : Nat), .int .i64 (t : Nat)] w fun e w' => e = .returned (.tuple #[]) ∧ ∃ v VR', RowsIn VR VR' ∧ Lay w0 w' (rowsG pl gk gw n (upd K t v) wr0 R VR') ∧ KnI VR' n v (tellL n (kn t) (kn f)) := by
  obtain ⟨iO, hiO, hz0, hz1, hz2⟩ := info_parts infoKn
  have HL := Lib.hid h; clear h
  have c0 := HL.out.cellB 0 rfl 0 (by omega)
  have d0 := HL.out.cell1 1 rfl (j := t) ht
  have d1 := HL.out.cell1 1 rfl (j := f) hf
  have hb := (HL.out.at_ 0 rfl).2
  have hbk := (HL.out.at_ 1 rfl).2
  obtain ⟨A1, c1, F1, e1, hr1, hF1⟩ := (hk t ht).rd (_ :: _ :: _ :: R) HL.out
  obtain ⟨A2, c2, F2, e2, hr2, hF2⟩ := (hk f hf).rd (_ :: _ :: _ :: R) HL.out
  have hl1 := hl t ht
  have hl2 := hl f hf
  rw [e1] at d0
  rw [e2] at d1
  simp only [ofL_0] at c0
  obtain ⟨al, hal⟩ : ∃ al, al = kn t ++ kn f := ⟨_, rfl⟩
  have HF : Hid (KnF VR n al (catF ((kn t).length * 2) F1 F2)) := Lib.hid (by rw [hal]; exact hF1.cat hF2)
  have HO : Hid (tellL n (kn t) (kn f) = leftTo n al al.length) := Lib.hid (by rw [hal]; rfl)
  obtain ⟨m, hm⟩ : ∃ m, m = al.length := ⟨_, rfl⟩
  have hmm : (kn t).length + (kn f).length = m := by rw [hm, hal]; simp
  have HM := Lib.hid hm
  have HR1 := Lib.hid hr1
  have HR2 := Lib.hid hr2
  have HU1 := Lib.hid hF1.one
  have HU2 := Lib.hid hF2.one
  clear e1 e2 hr1 hr2 hF1 hF2 hk hl hal hm
  generalize (kn t).length = n1 at *
  generalize (kn f).length = n2 at *
  have ha2 := alloc2 w.drew (.slice A1 n1 c1) (.slice A2 n2 c2) 33
  go_enter Try.func24, Try.ntmps24
  go_wp2
  refine wp_text 14 (by kernel_rfl) (by kernel_rfl) (by kernel_rfl) (by repeat' (first | (with_reducible apply tame_then) | (with_reducible apply tame_block) | (with_reducible apply tame_scope) | exact tame_gives | exact tame_body (fun _ _ h => ⟨_, h.1⟩))) ?_
  simp only [List.take_succ_cons, List.take_zero, List.drop_succ_cons, List.drop_zero]
  go_wp2
  refine headed ?_
  go_wp2_with fail
  refine (concat_any w.heap.size A1 A2 n1 n2 c1 c2 w.heap.size F1 F2 _ (by omega) (by omega) (by simp) (by simp) ha2.1 ha2.2 ((HR1.out.drewN 1).alloc (Nat.le_refl _) _) ((HR2.out.drewN 1).alloc (Nat.le_refl _) _) HU1.out HU2.out).mono ?_
  rintro e w3 ⟨A3, c3, rfl, h3⟩
  rw [hmm] at h3 ⊢
  have HL3 := Lib.hid (((HL.out.drew.alloc (.cells #[.slice A1 n1 c1, .slice A2 n2 c2] 33)).join h3).lnil 38 2 F1)
  clear h3 HR1 HR2 HU1 HU2 c0 d0 d1 HL
  generalize catF (n1 * 2) F1 F2 = G at *
  go_wp2
  go_loopw [7, 33] (fun s i wr => ∃ (k : Nat) (A : Option Addr) (c : Nat) (F : Nat → Value), k ≤ m ∧ i = .int .i64 (k : Nat) ∧ s = .slice A (leftTo n al k).length c ∧ Hid (Lay w0 wr (rowK A (leftTo n al k).length c F :: rowK A3 m c3 G :: rowsG pl gk gw n K wr0 R VR)) ∧ Hid (KnF VR n (leftTo n al k) F)) (fun _ i _ => m - (intOf i).toNat)
  case atStart => exact ⟨0, none, 0, F1, by omega, rfl, rfl, HL3, Lib.hid fun i hi => absurd hi (by show ¬ i < 0; omega)⟩
  case round =>
    obtain ⟨k, A4, c4, F4, hk, rfl, rfl, HL4, HF4⟩ := hrel
    clear HL3
    have hll := leftTo_len n al k
    by_cases hkm : k < m
    · obtain ⟨adA, gq, cq, rfl, hbA, e0, e1, hvk⟩ := HF.out.at_ (w := wr) (by rw [← HM.out]; exact HL4.out.rd 1 rfl) (i := k) (by rw [← HM.out]; exact hkm)
      have HVK := Lib.hid hvk
      clear hvk
      have HL5 := Lib.hid (HL4.out.newB [.int .i64 (knAt al k).val, .slice (some ⟨gq, 0, none⟩) n cq] 38 2 rfl _ rfl)
      obtain ⟨w6, rfl⟩ : ∃ w6, w6 = wr := ⟨_, rfl⟩
      go_wp2
      generalize w6.heap.size = bk at HL5 ⊢
      clear HL4 e0 e1 hbA hb hbk
      go_loopw [10, 40] (fun o i wr => ∃ j : Nat, j ≤ m ∧ i = .int .i64 (j : Nat) ∧ o = .bool (oldTo n al k j) ∧ Hid (Lay w0 wr (blkK bk (.int .i64 (knAt al k).val) (.slice (some ⟨gq, 0, none⟩) n cq) :: rowK A4 (leftTo n al k).length c4 F4 :: rowK (some adA) m c3 G :: rowsG pl gk gw n K wr0 R VR))) (fun _ i _ => m - (intOf i).toNat)
      case atStart => exact ⟨0, by omega, rfl, rfl, HL5⟩
      case round =>
        obtain ⟨j, hj, rfl, rfl, HL⟩ := hrel
        clear HL5
        have b0 := HL.out.cellB 0 rfl 0 (by omega)
        have b1 := HL.out.cellB 0 rfl 1 (by omega)
        have hbs := (HL.out.at_ 0 rfl).2
        simp only [ofL_0, ofL_1] at b0 b1
        by_cases hjm : j < m
        · obtain ⟨adB, go, co, eB, hbA, e0, e1, hvo⟩ := HF.out.at_ (w := wr) (by rw [← HM.out]; exact HL.out.rd 2 rfl) (i := j) (by rw [← HM.out]; exact hjm)
          obtain rfl : adA = adB := by injection eB
          have HRK := Lib.hid (HVK.out.rdG (_ :: _ :: _ :: _ :: _ :: _ :: R) HL.out)
          have HRO := Lib.hid (hvo.rdG (_ :: _ :: _ :: _ :: _ :: _ :: R) HL.out)
          clear hvo eB
          have HN0 : Hid (oldTo n al k (j + 1) = ((oldTo n al k j || (undB n (knAt al k).vec (knAt al j).vec && !(undB n (knAt al k).vec (knAt al j).vec && undB n (knAt al j).vec (knAt al k).vec))) || ((undB n (knAt al k).vec (knAt al j).vec && undB n (knAt al j).vec (knAt al k).vec) && decide (j < k)))) := rfl
          go_wp2_with fail
          refine (under_any n cq co wr.heap.size (some ⟨gq, 0, none⟩) (some ⟨go, 0, none⟩) (knAt al k).vec (knAt al j).vec _ (by omega) (HRK.out.alloc (Nat.le_refl _) _) (HRO.out.alloc (Nat.le_refl _) _)).mono ?_
          rintro e w7 ⟨rfl, rfl⟩
          generalize undB n (knAt al k).vec (knAt al j).vec = u1 at HN0 ⊢
          generalize oldTo n al k j = ob at HN0 ⊢
          by_cases hjk : j < k
          · cases u1
            · cases ob
              · go_wp2
                go_roundw
                case rel => exact ⟨j + 1, by omega, by go_num, by rw [HN0.out]; simp [hjk], Lib.hid (HL.out.alloc _)⟩
                case measure => simp [intOf]; omega
              · go_wp2
                go_roundw
                case rel => exact ⟨j + 1, by omega, by go_num, by rw [HN0.out]; simp [hjk], Lib.hid (HL.out.alloc _)⟩
                case measure => simp [intOf]; omega
            · go_wp2_with fail
              refine (under_any n co cq wr.heap.size (some ⟨go, 0, none⟩) (some ⟨gq, 0, none⟩) (knAt al j).vec (knAt al k).vec _ (by omega) (HRO.out.alloc (Nat.le_refl _) _) (HRK.out.alloc (Nat.le_refl _) _)).mono ?_
              rintro e w7 ⟨rfl, rfl⟩
              generalize undB n (knAt al j).vec (knAt al k).vec = u2 at HN0 ⊢
              cases u2
              · cases ob
                · go_wp2
                  go_roundw
                  case rel => exact ⟨j + 1, by omega, by go_num, by rw [HN0.out]; simp [hjk], Lib.hid (HL.out.alloc _)⟩
                  case measure => simp [intOf]; omega
                · go_wp2
                  go_roundw
                  case rel => exact ⟨j + 1, by omega, by go_num, by rw [HN0.out]; simp [hjk], Lib.hid (HL.out.alloc _)⟩
                  case measure => simp [intOf]; omega
              · cases ob
                · go_wp2
                  go_roundw
                  case rel => exact ⟨j + 1, by omega, by go_num, by rw [HN0.out]; simp [hjk], Lib.hid (HL.out.alloc _)⟩
                  case measure => simp [intOf]; omega
                · go_wp2
                  go_roundw
                  case rel => exact ⟨j + 1, by omega, by go_num, by rw [HN0.out]; simp [hjk], Lib.hid (HL.out.alloc _)⟩
                  case measure => simp [intOf]; omega
          · cases u1
            · cases ob
              · go_wp2
                go_roundw
                case rel => exact ⟨j + 1, by omega, by go_num, by rw [HN0.out]; simp [hjk], Lib.hid (HL.out.alloc _)⟩
                case measure => simp [intOf]; omega
              · go_wp2
                go_roundw
                case rel => exact ⟨j + 1, by omega, by go_num, by rw [HN0.out]; simp [hjk], Lib.hid (HL.out.alloc _)⟩
                case measure => simp [intOf]; omega
            · go_wp2_with fail
              refine (under_any n co cq wr.heap.size (some ⟨go, 0, none⟩) (some ⟨gq, 0, none⟩) (knAt al j).vec (knAt al k).vec _ (by omega) (HRO.out.alloc (Nat.le_refl _) _) (HRK.out.alloc (Nat.le_refl _) _)).mono ?_
              rintro e w7 ⟨rfl, rfl⟩
              generalize undB n (knAt al j).vec (knAt al k).vec = u2 at HN0 ⊢
              cases u2
              · cases ob
                · go_wp2
                  go_roundw
                  case rel => exact ⟨j + 1, by omega, by go_num, by rw [HN0.out]; simp [hjk], Lib.hid (HL.out.alloc _)⟩
                  case measure => simp [intOf]; omega
                · go_wp2
                  go_roundw
                  case rel => exact ⟨j + 1, by omega, by go_num, by rw [HN0.out]; simp [hjk], Lib.hid (HL.out.alloc _)⟩
                  case measure => simp [intOf]; omega
              · cases ob
                · go_wp2
                  go_roundw
                  case rel => exact ⟨j + 1, by omega, by go_num, by rw [HN0.out]; simp [hjk], Lib.hid (HL.out.alloc _)⟩
                  case measure => simp [intOf]; omega
                · go_wp2
                  go_roundw
                  case rel => exact ⟨j + 1, by omega, by go_num, by rw [HN0.out]; simp [hjk], Lib.hid (HL.out.alloc _)⟩
                  case measure => simp [intOf]; omega
        · obtain rfl : j = m := by omega
          have hx : Hid (leftTo n al (k + 1) = if oldTo n al k al.length then leftTo n al k else leftTo n al k ++ [knAt al k]) := rfl
          rw [← HM.out] at hx
          generalize oldTo n al k j = ob at hx ⊢
          cases ob
          · have HX : Hid (leftTo n al (k + 1) = leftTo n al k ++ [knAt al k]) := Lib.hid (by rw [hx.out]; simp)
            clear hx
            have HK1 : Hid (KnF VR n [knAt al k] (ofL [.int .i64 (knAt al k).val, .slice (some ⟨gq, 0, none⟩) n cq])) := Lib.hid (fun i hi => by
              obtain rfl : i = 0 := by simpa using hi
              exact ⟨rfl, HVK.out⟩)
            have HK2 := Lib.hid (HF4.out.cat HK1.out)
            have HO1 := Lib.hid HK1.out.one
            generalize hlx : (leftTo n al k).length = ll at HL HK2 hll ⊢
            have HLX := Lib.hid hlx
            clear hlx
            go_wp2_with (first
              | (at_builtin; refine wpList_ap rfl (.tmp 77) (.tmp 79) _ rfl 38 iO _ 2 32 Try.underlying33 hiO hz0 hz1 hz2 rfl (by omega) w0.heap.size (n := ll) rfl ((HL.out.own 1 _ rfl).alloc _) (B := wr.heap.size + 1) (m := 1) (g := ofL [.int .i64 (knAt al k).val, .slice (some ⟨gq, 0, none⟩) n cq]) rfl ?hr HO1.out (catF (ll * 2) F4 (ofL [.int .i64 (knAt al k).val, .slice (some ⟨gq, 0, none⟩) n cq])) (fun j hj => by unfold catF; rw [if_pos hj]) (fun j hj => by unfold catF; rw [if_neg (by omega), Nat.add_sub_cancel_left]) (ll + 1) rfl (by unfold maxLen; omega) (by omega) (by have := HL.out.size; simp; omega) ?_
                 case hr =>
                   refine cell_new wr _ _ _ wr.heap.size rfl (fun j hj => ?_)
                   rcases (by omega : j = 0 ∨ j = 1) with rfl | rfl
                   · rfl
                   · rfl
                 intro A5 c5 w5 ho hgr ha
                 have HL6 := Lib.hid ((HL.out.alloc (.cells #[.int .i64 (knAt al k).val, .slice (some ⟨gq, 0, none⟩) n cq] 38)).app 1 rfl ho hgr ha).tail
                 clear ho hgr ha)
              | fail)
            go_roundw
            case rel => exact ⟨k + 1, A5, c5, _, by omega, by go_num, by rw [HX.out, List.length_append, HLX.out]; rfl, Lib.hid (by rw [HX.out, List.length_append, HLX.out]; exact HL6.out), Lib.hid (by rw [HX.out]; exact HK2.out)⟩
            case measure => simp [intOf]; omega
          · have HX : Hid (leftTo n al (k + 1) = leftTo n al k) := Lib.hid (by rw [hx.out]; simp)
            clear hx
            have HL6 := Lib.hid HL.out.tail
            go_wp2
            go_roundw
            case rel => exact ⟨k + 1, A4, c4, F4, by omega, by go_num, by rw [HX.out], Lib.hid (by rw [HX.out]; exact HL6.out), Lib.hid (by rw [HX.out]; exact HF4.out)⟩
            case measure => simp [intOf]; omega
    · obtain rfl : k = m := by omega
      have c0 := HL4.out.cellB 2 rfl 0 (by omega)
      have z0 := HL4.out.frz 3 rfl (by omega) t
      have hb3 := (HL4.out.at_ 3 rfl).2
      have hb2 := (HL4.out.at_ 2 rfl).2
      have ct := HL4.out.cell1 3 rfl (j := t) ht
      simp only [ofL_0] at c0
      rw [HM.out, ← HO.out] at HL4 HF4 ⊢
      have HL5 := Lib.hid (HL4.out.upd (mk := fun v => v) 3 (.slice A4 (tellL n (kn t) (kn f)).length c4) rfl ht)
      go_wp2
      go_end0
      have h6 := (HL5.out.del 1).into (P := _ :: _ :: _ :: R)
      refine ⟨rfl, _, _, RowsIn.cons _ VR, h6, 0, A4, c4, F4, rfl, rfl, HF4.out.sub (RowsIn.cons _ VR)⟩
end Go.Proofs.Ytdpigpjcldcoaaa
