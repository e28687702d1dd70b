/- The walk of suspect.Play, the good calls. -/
import Derived.Test.YtcipdjdbafngkaaSusPlay
set_option linter.unusedVariables false
set_option linter.unusedSimpArgs false
namespace Go.Proofs.Ytcipdjdbafngkaa
open Go.RowKit

/-- What Play gives. -/
structure SuF (w w' : World) (n m : Nat) (s : SS) (gw : Nat) (A : Option Addr) (cap : Nat) (fc : Nat → Int) : Prop where
  ow : Own w' w.heap.size 3 1 (some ⟨gw, 0, none⟩) n n (fun i => .int .i64 (s.waits i : Nat))
  cod : Own w' w.heap.size 28 1 A m cap (fun i => .int .i64 (fc i))
  bel : Below w.heap.size w w'
theorem four_set {w : World} {b : Nat} {a0 a1 a2 a3 : Value} {t : TypeId} {fr : Nat × Nat} (h : w.heap[b]? = some (.cells #[a0, a1, a2, a3] t fr)) (u0 u1 u2 u3 : Value) :
    ((((w.setCell ⟨b, 0, none⟩ u0).setCell ⟨b, 1, none⟩ u1).setCell ⟨b, 2, none⟩ u2).setCell ⟨b, 3, none⟩ u3).heap[b]? = some (.cells #[u0, u1, u2, u3] t fr) := by
  simp [World.setCell, Array.getElem?_modify, h]
theorem SuP.back {w wr : World} {g n : Nat} {s : SS} {gh gw : Nat} {j : Nat} {A : Option Addr} {cap : Nat} {fc : Nat → Int} (h : SuP w wr g n s gh gw j A cap fc) {u0 u1 u2 u3 : Value} :
    SuF w ((((wr.setCell ⟨w.heap.size, 0, none⟩ u0).setCell ⟨w.heap.size, 1, none⟩ u1).setCell ⟨w.heap.size, 2, none⟩ u2).setCell ⟨w.heap.size, 3, none⟩ u3) n j s gw A cap fc := by
  have far : ∀ k, k ≠ w.heap.size → ((((wr.setCell ⟨w.heap.size, 0, none⟩ u0).setCell ⟨w.heap.size, 1, none⟩ u1).setCell ⟨w.heap.size, 2, none⟩ u2).setCell ⟨w.heap.size, 3, none⟩ u3).heap[k]? = wr.heap[k]? := fun k hk =>
    (((Below.heap_setCell _ _ _ _ hk).trans (Below.heap_setCell _ _ _ _ hk)).trans (Below.heap_setCell _ _ _ _ hk)).trans (Below.heap_setCell _ _ _ _ hk)
  refine ⟨(h.st.ow.same fun k hk => far k ?_).base_le (by omega), (h.cod.same fun k hk => far k ?_).base_le (by omega), (((h.bel.setCell (Nat.le_refl _) _).setCell (Nat.le_refl _) _).setCell (Nat.le_refl _) _).setCell (Nat.le_refl _) _⟩
  · have := (h.st.ow.lt k hk).1; omega
  · have := (h.cod.lt k hk).1; omega

theorem andNot_pow {a m : Nat} (ha : a < 4294967296) (hm : m < 32) : bits .andNot .u32 (a : Int) (2 ^ m % 4294967296) = ((clr a m : Nat) : Int) := by
  rw [pow_mod hm, u32_andNot_nat a _ ha (pow_lt32 hm)]
  rfl
theorem SuP.start (w w1 : World) (n : Nat) (hn : n ≤ 6) (fc : Nat → Int) (x : Obj)
    (h : RI ((w.alloc (.cells #[.slice none 0 0, .int .u32 0, .int .i64 0, .slice none 0 0] 41)).alloc x) w1 ((w.alloc (.cells #[.slice none 0 0, .int .u32 0, .int .i64 0, .slice none 0 0] 41)).alloc x).heap.size 3 (.int .i64 1) (.int .i64 0) n n) :
    SuP w ((w1.alloc (.cells #[.slice none 0 0, .int .u32 0, .int .i64 0, .slice (some ⟨w.heap.size + 1 + 1, 0, none⟩) n n] 41)).alloc (.cells (madeCells #[Value.int .i64 0] n) 3)) w1.heap.size n SS0 (w1.heap.size + 1) (w.heap.size + 1 + 1) 0 none 0 fc := by
  have hz := h.bel.size
  have hzz : ((w.alloc (.cells #[.slice none 0 0, .int .u32 0, .int .i64 0, .slice none 0 0] 41)).alloc x).heap.size = w.heap.size + 1 + 1 := by simp
  have hm := made_cells (.int .i64 0) n rfl
  have ho := h.own hn
  rw [hzz] at hz ho
  refine ⟨⟨?_, ?_, ?_, by omega⟩, Own.nil_ _ _ _ _ _, ?_, ?_⟩
  · refine (Own.made w1 _ _ 4 1 _ _ w1.heap.size rfl (by omega) rfl (by unfold maxLen; omega) fun j hj => ?_).alloc _
    rcases (by omega : j = 0 ∨ j = 1 ∨ j = 2 ∨ j = 3) with rfl | rfl | rfl | rfl <;> rfl
  · exact Own.made _ _ _ 1 n _ _ _ (by simp) (by simp; omega) (by rw [Nat.mul_one]; exact hm.1) (by unfold maxLen; omega) (fun j hj => by rw [Nat.mul_one] at hj; exact hm.2 j hj)
  · exact ((ho.alloc _).alloc _).base_le (by omega)
  · rw [heap_old _ _ (by simp; omega), heap_old _ _ (by omega), h.bel.block _ (by rw [hzz]; omega), heap_old _ _ (by simp), heap_new _ _ rfl]
  · have hb0 : Below w.heap.size w ((w.alloc (.cells #[.slice none 0 0, .int .u32 0, .int .i64 0, .slice none 0 0] 41)).alloc x) := ((Below.refl _ _).alloc (Nat.le_refl _) _).alloc (by simp) _
    have hb1 := hb0.trans (h.bel.mono hb0.size)
    exact (hb1.alloc hb1.size _).alloc (by simp; omega) _

set_option maxRecDepth 100000 in
set_option maxHeartbeats 3200000 in
theorem sus_good (n m cap B : Nat) (A : Option Addr) (M : Mv) (w : World) (hn1 : 1 ≤ n) (hn : n ≤ 6) (hm : m ≤ 60) (hB : B ≤ w.heap.size) (hr : Rd w B A (m * 4) (mvF M)) :
    Calls Try.prog 12 #[.int .i64 n, .slice A m cap] w (Gives fun v w' => ∃ gw A' cap', v = .tuple #[.agg #[.slice A' m cap', .int .u32 ((suE n M m).set : Nat), .int .i64 ((suE n M m).wrong : Nat), .slice (some ⟨gw, 0, none⟩) n n], .int .i64 0] ∧
      SuF w w' n m (suE n M m) gw A' cap' (suC n M)) := by
  have HR := Lib.hid hr; clear hr
  obtain ⟨i0, hi0, hz0, hz1, hz2⟩ := info_parts infoRepI
  obtain ⟨iE, hiE, hzE0, hzE1, hzE2⟩ := info_parts infoErrno2
  go_enter Try.func12, Try.ntmps12
  go_wp2_with fail
  refine (repI_any 1 n hn1 hn ⟨w.heap.size + 1, 0, none⟩ 1 _ (World.cell?_alloc_at _ _ _ _ (by simp)) (Nat.le_refl _)).mono ?_
  rintro e w1 ⟨v, rfl, rfl, hri⟩
  have HRI := Lib.hid hri
  clear hri
  go_wp2_with (at_make; refine wpList_mk1 rfl (.tmp 30) (.tmp 30) _ rfl 3 i0 _ 8 Try.underlying22 hi0 hz0 hz1 hz2 rfl .i64 .i64 n rfl rfl (by omega) (by unfold maxLen; omega) (w.heap.size + 1) _ rfl (by have := HRI.out.bel.size; simp at this ⊢; omega) ?_; intro w2 ho2 he2)
  refine at_world (F := fun W' => Code.wp _ _ _ _ W') (fun W => SuP w W w1.heap.size n SS0 (w1.heap.size + 1) (w.heap.size + 1 + 1) 0 none 0 (suC n M)) (SuP.start w w1 n hn _ _ HRI.out) ?_
  intro W hW
  have HW := Lib.hid hW
  clear hW ho2 he2
  generalize hgh : w1.heap.size + 1 = gh at HW
  generalize hg : w1.heap.size = g at HW
  generalize hgw : w.heap.size + 1 + 1 = gw at HW
  clear HRI hgh hg hgw
  go_loopw [7, 34] (fun nw i wr => ∃ j : Nat, j ≤ m ∧ i = .int .i64 j ∧ nw = .int .i64 ((suE n M j).now : Nat) ∧ ∃ A' cap', Hid (SuP w wr g n (suE n M j) gh gw j A' cap' (suC n M))) (fun _ i _ => m - (intOf i).toNat)
  case atStart => exact ⟨0, by omega, rfl, rfl, none, 0, HW⟩
  case round =>
    clear HW
    obtain ⟨j, hj, rfl, rfl, A', cap', HQ⟩ := hrel
    by_cases hlt : j < m
    · obtain ⟨ad, rfl, hbl, m0, m1, m2, m3⟩ := (HR.out.below (HQ.out.bel.mono hB)).rec4 hlt
      clear hbl
      have hI := SI.all (n := n) hn M j
      have HCO := Lib.hid (show suC n M j = (suStep n (M.k j) (M.f j) (suE n M j)).1 from rfl)
      have HST := Lib.hid (show suE n M (j + 1) = (suStep n (M.k j) (M.f j) (suE n M j)).2 from rfl)
      obtain ⟨s, hs⟩ : ∃ s, suE n M j = s := ⟨_, rfl⟩
      rw [hs] at HQ HCO HST hI ⊢
      have HI := Lib.hid hI
      have hnow := hI.now
      clear hs hI
      go_upto_block 2 with fail
      clear m0 m1 m2 m3
      refine at_world (F := fun W' => Code.wp _ _ _ _ W') (fun W => SuP w W g n s gh gw j A' cap' (suC n M) ∧ (wr.heap.size < W.heap.size ∧ W.cell? ⟨wr.heap.size, 0, none⟩ = some (.int .i64 (M.k j)) ∧ W.cell? ⟨wr.heap.size, 1, none⟩ = some (.int .i64 (M.f j))))
        ⟨HQ.out.alloc _, by simp, World.cell?_alloc_at _ _ _ _ rfl, World.cell?_alloc_at _ _ _ _ rfl⟩ ?_
      intro W ⟨hW, hq, m0, m1⟩
      have HW := Lib.hid hW
      clear hW
      have hlt3 : g < wr.heap.size ∧ gh < wr.heap.size ∧ gw < wr.heap.size := HQ.out.st.lt.2
      have HL3 := Lib.hid hlt3
      clear hlt3
      go_cut [7, 11] from 35 to 123 (fun nw c wx => nw = .int .i64 ((suE n M (j + 1)).now : Nat) ∧ c = .int .i64 (suC n M j) ∧ Hid (SuP w wx g n (suE n M (j + 1)) gh gw j A' cap' (suC n M)))
      case first =>
        obtain ⟨c0, c1, c2, c3⟩ := HW.out.st.heads
        have fz0 := (HW.out.st.frz (by omega) 0).1
        have fz1 := (HW.out.st.frz (by omega) 1).1
        have fz2 := (HW.out.st.frz (by omega) 2).1
        by_cases hk : M.k j ≠ 1 ∧ M.k j ≠ 2
        · have e1 : (M.k j != 1) = true := bne_iff_ne.2 hk.1
          have e2 : (M.k j != 2) = true := bne_iff_ne.2 hk.2
          rw [suStep, if_pos hk] at HCO HST
          clear hk
          go_wp2
          go_meet
          exact ⟨by rw [HST.out], by rw [HCO.out], by show SuP _ _ _ _ _ _ _ _ _ _ _; rw [HST.out]; exact HW.out⟩
        · rw [suStep, if_neg hk] at HCO HST
          by_cases hk2 : M.k j = 2
          · rw [if_pos hk2] at HCO HST
            rw [hk2] at m0
            have e1 : ((2 : Int) != 1) = true := rfl
            clear hk hk2
            go_wp2
            clear c0 c1 c2 c3 fz0 fz1 fz2
            go_loopw [86] (fun i wx => ∃ q : Nat, q ≤ n ∧ i = .int .i64 q ∧ Hid (SuP w wx g n { s with now := s.now + 1, set := tickTo { s with now := s.now + 1 } q } gh gw j A' cap' (suC n M))) (fun i _ => n - (intOf i).toNat)
            case atStart => exact ⟨0, by omega, rfl, HW.out.now_ _⟩
            case round =>
              obtain ⟨q, hq, rfl, HQ2⟩ := hrel
              by_cases hqn : q < n
              · have hwb := HI.out.waits q
                have hhb := HI.out.heard q
                have hset := tick_lt { s with now := s.now + 1 } HI.out.set q (by omega)
                have HN := Lib.hid (show tickTo { s with now := s.now + 1 } (q + 1) = if s.waits q + s.heard q < s.now + 1 then tickTo { s with now := s.now + 1 } q ||| 2 ^ q else tickTo { s with now := s.now + 1 } q from rfl)
                obtain ⟨c0, c1, c2, c3⟩ := HQ2.out.st.heads
                have fz0 := (HQ2.out.st.frz (by omega) 0).1
                have fz1 := (HQ2.out.st.frz (by omega) 1).1
                have fz2 := (HQ2.out.st.frz (by omega) 2).1
                obtain ⟨r0, r1⟩ := HQ2.out.st.rows hqn
                obtain ⟨u, hu⟩ : ∃ u, tickTo { s with now := s.now + 1 } q = u := ⟨_, rfl⟩
                rw [hu] at HN HQ2 c1 hset
                obtain ⟨x, hx⟩ : ∃ x, s.waits q = x := ⟨_, rfl⟩
                obtain ⟨y, hy⟩ : ∃ y, s.heard q = y := ⟨_, rfl⟩
                rw [hx, hy] at HN
                rw [hx] at r1 hwb
                rw [hy] at r0 hhb
                have hu64 : u < 64 := Nat.lt_of_lt_of_le hset (pow64 hn)
                have HO := Lib.hid (or_pow (a := u) (m := q) (by omega) (by omega))
                clear hu hx hy hset
                by_cases hxy : x + y < s.now + 1
                · have HN := Lib.hid (HN.out.trans (if_pos hxy))
                  go_wp2
                  refine wp_text 6 (by kernel_rfl) (by kernel_rfl) (by kernel_rfl) (by repeat' (first | (with_reducible apply tame_then) | (with_reducible apply tame_block) | (with_reducible apply tame_scope) | exact tame_gives | exact tame_body (fun _ _ h => ⟨_, h.1⟩))) ?_
                  simp only [List.take_succ_cons, List.take_zero, List.drop_succ_cons, List.drop_zero]
                  go_wp2
                  refine headed ?_
                  go_wp2
                  go_roundw
                  case rel => exact ⟨q + 1, by omega, by go_num, by show SuP _ _ _ _ _ _ _ _ _ _ _; rw [HN.out, HO.out]; exact SuP.step (HQ2.out.sim (wr' := World.drew _) ⟨rfl, rfl, rfl, rfl⟩) (.inl rfl) ((HQ2.out.sim (wr' := World.drew _) ⟨rfl, rfl, rfl, rfl⟩).st.set_ _)⟩
                  case measure => simp [intOf]; omega
                · have HN := Lib.hid (HN.out.trans (if_neg hxy))
                  go_wp2
                  go_roundw
                  case rel => exact ⟨q + 1, by omega, by go_num, by show SuP _ _ _ _ _ _ _ _ _ _ _; rw [HN.out]; exact HQ2.out⟩
                  case measure => simp [intOf]; omega
              · obtain rfl : q = n := by omega
                go_wp2
                go_meet
                exact ⟨by rw [HST.out]; rfl, by rw [HCO.out], by show SuP _ _ _ _ _ _ _ _ _ _ _; rw [HST.out]; exact HQ2.out⟩
          · have hk1 : M.k j = 1 := by
              by_cases h : M.k j = 1
              · exact h
              · exact absurd ⟨h, hk2⟩ hk
            rw [if_neg hk2] at HCO HST
            rw [hk1] at m0
            clear hk hk2 hk1
            by_cases hf : M.f j < 0 ∨ n ≤ M.f j
            · rw [if_pos hf] at HCO HST
              go_wp2
              all_goals first | (go_meet; exact ⟨by rw [HST.out], by rw [HCO.out], by show SuP _ _ _ _ _ _ _ _ _ _ _; rw [HST.out]; exact HW.out⟩) | (exfalso; omega)
            · rw [if_neg hf] at HCO HST
              obtain ⟨f, hfe⟩ := Int.eq_ofNat_of_zero_le (show 0 ≤ M.f j by omega)
              have hfn : f < n := by omega
              rw [hfe] at HCO HST m1
              simp only [Int.toNat_natCast] at HCO HST
              clear hf hfe
              have hI := HI.out
              have hset : s.set < 64 := Nat.lt_of_lt_of_le hI.set (pow64 hn)
              have hb := bit_at (i := f) (show s.set < 4294967296 by omega)
              have HO := Lib.hid (andNot_pow (a := s.set) (m := f) (by omega) (by omega))
              have hwf := (hI.waits f).2
              have hwr := hI.wrong
              clear hI
              obtain ⟨r0, r1⟩ := HW.out.st.rows hfn
              have fh := (HW.out.st.frz (by omega) f).2.1
              have fw := (HW.out.st.frz (by omega) f).2.2
              have hne1 := HW.out.st.neg.1
              have hne2 := HW.out.st.neg.2
              have hne3 := HW.out.st.ne
              have hq1 : g ≠ wr.heap.size := by have := HL3.out; omega
              have hq2 : gh ≠ wr.heap.size := by have := HL3.out; omega
              have hq3 : gw ≠ wr.heap.size := by have := HL3.out; omega
              cases hbit : s.set.testBit f
              · have HB := Lib.hid (show beatS s f = { s with heard := upd s.heard f s.now } by unfold beatS; rw [if_neg (by rw [hbit]; simp)])
                rw [hbit] at hb
                clear hbit
                go_wp2
                go_meet
                exact ⟨by rw [HST.out, HB.out], by rw [HCO.out], by show SuP _ _ _ _ _ _ _ _ _ _ _; rw [HST.out, HB.out]; exact HW.out.step (.inr (.inl rfl)) (HW.out.st.heard_ hfn _)⟩
              · have HB := Lib.hid (show beatS s f = ⟨clr s.set f, s.wrong + 1, s.now, upd s.waits f (s.waits f + 1), upd s.heard f s.now⟩ by unfold beatS; rw [if_pos hbit])
                rw [hbit] at hb
                clear hbit
                go_wp2
                refine wp_text 7 (by kernel_rfl) (by kernel_rfl) (by kernel_rfl) (by repeat' (first | (with_reducible apply tame_then) | (with_reducible apply tame_block) | (with_reducible apply tame_scope) | exact tame_gives | exact tame_body (fun _ _ h => ⟨_, h.1⟩))) ?_
                simp only [List.take_succ_cons, List.take_zero, List.drop_succ_cons, List.drop_zero]
                go_wp2
                refine headed ?_
                go_wp2
                have e1 : ((s.wrong : Nat) : Int) + 1 = ((s.wrong + 1 : Nat) : Int) := rfl
                have e2 : ((s.waits f : Nat) : Int) + 1 = ((s.waits f + 1 : Nat) : Int) := rfl
                rw [HO.out, e1, e2]
                have s1 := HW.out.step (.inl rfl) (HW.out.st.set_ (clr s.set f))
                have s2 := s1.step (.inl rfl) (s1.st.wrong_ (s.wrong + 1))
                have s3 := s2.step (.inr (.inr rfl)) (s2.st.waits_ hfn (s.waits f + 1))
                have s4 := s3.step (.inr (.inl rfl)) (s3.st.heard_ hfn s.now)
                have S4 := Lib.hid s4
                clear s1 s2 s3 s4 e1 e2
                go_meet
                exact ⟨by rw [HST.out, HB.out], by rw [HCO.out], by show SuP _ _ _ _ _ _ _ _ _ _ _; rw [HST.out, HB.out]; exact S4.out.sim ⟨rfl, rfl, rfl, rfl⟩⟩
      case rest =>
        obtain ⟨rfl, rfl, HL2⟩ := hcut
        clear HCO HST HW m0 m1
        obtain ⟨c0, c1, c2, c3⟩ := HL2.out.st.heads
        have fz0 := (HL2.out.st.frz (by omega) 0).1
        have fz1 := (HL2.out.st.frz (by omega) 1).1
        have fz2 := (HL2.out.st.frz (by omega) 2).1
        have hb1 := HL2.out.bel.size
        go_wp2_with (first
          | (at_builtin; refine wpList_ap1 rfl (.tmp 118) (.tmp 120) _ rfl 28 iE _ 8 Try.underlying24 hiE hzE0 hzE1 hzE2 rfl (w.heap.size + 1) rfl (HL2.out.cod.alloc _) rfl (cell_new _ _ _ _ _ rfl (one_cell _)) (fun _ _ => rfl) (fun i => .int .i64 (suC n M i)) (fun _ _ => rfl) (one_at rfl) (j + 1) rfl (by unfold maxLen; omega) (by omega) (by have := HL2.out.st.lt; simp; omega) ?_; intro A2 cap2 w2 ho2 hg2 ha2
             have HS2 := Lib.hid (HL2.out.next hg2 ho2).1
             have HP2 := Lib.hid (HL2.out.next hg2 ho2).2
             have d0 := HS2.out.heads.1
             have fd0 := (HS2.out.frz (by omega) 0).1
             clear ho2 hg2 ha2)
          | fail)
        go_roundw
        case rel => exact ⟨j + 1, by omega, by go_num, rfl, A2, cap2, HP2.out⟩
        case measure => simp [intOf]; omega
    · obtain rfl : j = m := by omega
      obtain ⟨c0, c1, c2, c3⟩ := HQ.out.st.heads
      have fz0 := (HQ.out.st.frz (by omega) 0).1
      have fz1 := (HQ.out.st.frz (by omega) 1).1
      have fz2 := (HQ.out.st.frz (by omega) 2).1
      have hrv := HQ.out.rv
      have r0 : wr.cell? ⟨w.heap.size, 0, none⟩ = some (.slice none 0 0) := by rw [cell_of_row _ _ _ _ _ _ hrv]; rfl
      have r1 : wr.cell? ⟨w.heap.size, 1, none⟩ = some (.int .u32 0) := by rw [cell_of_row _ _ _ _ _ _ hrv]; rfl
      have r2 : wr.cell? ⟨w.heap.size, 2, none⟩ = some (.int .i64 0) := by rw [cell_of_row _ _ _ _ _ _ hrv]; rfl
      have r3 : wr.cell? ⟨w.heap.size, 3, none⟩ = some (.slice none 0 0) := by rw [cell_of_row _ _ _ _ _ _ hrv]; rfl
      have hfr : ∀ o, wr.frozen? ⟨w.heap.size, o, none⟩ = false := fun o => by have := hrv; simp [World.frozen?, this]
      have f0 := hfr 0
      have f1 := hfr 1
      have f2 := hfr 2
      have f3 := hfr 3
      have HRV := Lib.hid hrv
      clear hfr hrv
      go_wp2
      have hfin := four_set HRV.out (.slice A' j cap') (.int .u32 ((suE n M j).set : Nat)) (.int .i64 ((suE n M j).wrong : Nat)) (.slice (some ⟨gw, 0, none⟩) n n)
      have hback : SuF w _ n j (suE n M j) gw A' cap' (suC n M) := HQ.out.back (u0 := .slice A' j cap') (u1 := .int .u32 ((suE n M j).set : Nat)) (u2 := .int .i64 ((suE n M j).wrong : Nat)) (u3 := .slice (some ⟨gw, 0, none⟩) n n)
      clear c0 c1 c2 c3 fz0 fz1 fz2
      clear r0 r1 r2 r3 f0 f1 f2 f3
      generalize (((wr.setCell ⟨w.heap.size, 0, none⟩ (.slice A' j cap')).setCell ⟨w.heap.size, 1, none⟩ (.int .u32 ((suE n M j).set : Nat))).setCell ⟨w.heap.size, 2, none⟩ (.int .i64 ((suE n M j).wrong : Nat))).setCell ⟨w.heap.size, 3, none⟩ (.slice (some ⟨gw, 0, none⟩) n n) = W9 at hfin hback ⊢
      have r0 : W9.cell? ⟨w.heap.size, 0, none⟩ = some (.slice A' j cap') := by rw [cell_of_row _ _ _ _ _ _ hfin]; rfl
      have r1 : W9.cell? ⟨w.heap.size, 1, none⟩ = some (.int .u32 ((suE n M j).set : Nat)) := by rw [cell_of_row _ _ _ _ _ _ hfin]; rfl
      have r2 : W9.cell? ⟨w.heap.size, 2, none⟩ = some (.int .i64 ((suE n M j).wrong : Nat)) := by rw [cell_of_row _ _ _ _ _ _ hfin]; rfl
      have r3 : W9.cell? ⟨w.heap.size, 3, none⟩ = some (.slice (some ⟨gw, 0, none⟩) n n) := by rw [cell_of_row _ _ _ _ _ _ hfin]; rfl
      exact bodyPost_ret (v := .tuple #[.agg #[.slice A' j cap', .int .u32 ((suE n M j).set : Nat), .int .i64 ((suE n M j).wrong : Nat), .slice (some ⟨gw, 0, none⟩) n n], .int .i64 0]) (by simp [results, Try.results12, go_sem, r0, r1, r2, r3]) rfl ⟨_, rfl, gw, A', cap', rfl, hback⟩
end Go.Proofs.Ytcipdjdbafngkaa
