/- The walk of quiet's 'take'. -/
import Derived.Test.YtfcgjmekeonemaaQu1
set_option linter.unusedVariables false
set_option linter.unusedSimpArgs false
namespace Go.Proofs.Ytfcgjmekeonemaa
open Go.RowKit Go.Maps Go.MapKept

theorem zeroQ (u : World) : (zeroValue 3).run Try.prog u = .ok (.int .i64 0) u := by kernel_rfl
section
variable {g go gb n cap bm m : Nat} {s : QS} {R : List LRow} {w0 w : World}
theorem qu_look {L : List LRow} (p : Nat × Nat) (h : LayM w0 w L (mapQ n m bm s)) (hn : n ≤ 6) (hp : p.1 < n ∧ p.2 < n) : (Instr.lookup 43 (.map (some bm)) (keyQ p) false).run Try.prog w = .ok (.int .i64 (s.way p)) w := by
  obtain ⟨es, c, hb, hφ⟩ := h.mp 0 rfl
  obtain ⟨kl, hk⟩ := keyP p (by omega) (by omega)
  exact EMap.look hφ hb (Keyed.of_law lawP) Try.underlying43 (zeroQ w) p hk
theorem qu_entry {L : List LRow} (p : Nat × Nat) (h : LayM w0 w L (mapQ n m bm s)) (hn : n ≤ 6) (hm : m ≤ 100) (hp : p.1 < n ∧ p.2 < n) :
    ∃ (st : Nat) (es1 : Array MapEntry) (c1 : Nat), (Instr.mapEntry 43 (.map (some bm)) (keyQ p)).run Try.prog w = .ok (.tuple #[.int .i64 (s.way p), goInt st]) (ChangeMaps.setBlock w bm (.map es1 c1)) ∧
      LayM w0 (ChangeMaps.setBlock w bm (.map es1 c1)) L (mapQ n (m + 1) bm s) ∧
      ∀ (v : Int), ∃ es' c', (Instr.entryStore 43 (.map (some bm)) (goInt st) (.int .i64 v)).run Try.prog (ChangeMaps.setBlock w bm (.map es1 c1)) = .ok () (ChangeMaps.setBlock (ChangeMaps.setBlock w bm (.map es1 c1)) bm (.map es' c')) ∧
        LayM w0 (ChangeMaps.setBlock (ChangeMaps.setBlock w bm (.map es1 c1)) bm (.map es' c')) L (mapQ n (m + 1) bm { s with way := wput s.way p v }) := by
  obtain ⟨es, c, hb, hφ⟩ := h.mp 0 rfl
  obtain ⟨kl, hk⟩ := keyP p (by omega) (by omega)
  obtain ⟨st, es1, c1, h1, h2⟩ := EMap.entry hφ hb lawP Try.underlying43 zeroQ (by unfold maxLen; omega) keyQ_inj p hp hk
  have hmid := EMap.mid hφ hb (Keyed.of_law lawP) Try.underlying43 zeroQ keyQ_inj p hp hk h1
  have hL := h.setM 0 rfl es1 c1 (wayφ n (m + 1) s) hmid
  refine ⟨st, es1, c1, h1, hL, fun v => ?_⟩
  have hl : bm < w.heap.size := (Array.getElem?_eq_some_iff.1 hb).1
  obtain ⟨es', c', h3, h4⟩ := h2 (ChangeMaps.setBlock w bm (.map es1 c1)) (.int .i64 v) (by simp [ChangeMaps.setBlock, hl])
  refine ⟨es', c', h3, hL.setM 0 rfl es' c' _ ?_⟩
  refine EMap.same h4 fun a => ?_
  show Value.int .i64 (wput s.way p v a) = fput _ p _ a
  unfold wput fput
  split <;> rfl
end
/-- What the loads of 's.way[k]--' read. -/
def WayS (g bm q n : Nat) (p : Nat × Nat) (v : Int) (w : World) : Prop :=
  w.cell? ⟨g, 4, none⟩ = some (.map (some bm)) ∧ w.cell? ⟨q, 0, none⟩ = some (.int .i64 (p.1 : Nat)) ∧ w.cell? ⟨q, 1, none⟩ = some (.int .i64 (p.2 : Nat)) ∧ (Instr.lookup 43 (.map (some bm)) (keyQ p) false).run Try.prog w = .ok (.int .i64 v) w
section
variable (g go gb n cap bm m : Nat) (R : List LRow) (w0 : World)
set_option maxRecDepth 100000 in
set_option maxHeartbeats 1000000 in
theorem take_any (f t : Nat) (s : QS) (w : World) (hn : n ≤ 6) (hf : f < n) (ht : t < n) (hft : f ≠ t) (hq : QJ n none s) (ho : ∀ j, j < n → s.owed j ≤ 100) (hw : ∀ p, s.way p ≤ 100) (hm : m ≤ 99) (h : LayM w0 w (rowsQ g go gb n cap bm s R) (mapQ n m bm s)) :
    Calls Try.prog 16 #[.pointer (some ⟨g, 0, none⟩), .int .i64 (f : Nat), .int .i64 (t : Nat)] w fun e w' => e = .returned (.int .i64 (takeS n f t s).1) ∧ LayM w0 w' (rowsQ g go gb n cap bm (takeS n f t s).2 R) (mapQ n (m + 1) bm (takeS n f t s).2) := by
  have H := Lib.hid h; clear h
  have hbm : bm < w.heap.size := by obtain ⟨es, c, h2, _⟩ := H.out.mp 0 rfl; exact (Array.getElem?_eq_some_iff.1 h2).1
  obtain ⟨c0, c1, c2, c3, c4⟩ := qu_heads H.out
  have n01 := H.out.lay.ne_ 0 1 rfl rfl (by omega)
  have n02 := H.out.lay.ne_ 0 2 rfl rfl (by omega)
  have n12 := H.out.lay.ne_ 1 2 rfl rfl (by omega)
  go_enter Try.func16, Try.ntmps16
  go_wp2
  refine at_world (F := fun W' => Code.wp _ _ _ _ W') (fun W => LayM w0 W (rowsQ g go gb n cap bm s R) (mapQ n m bm s) ∧ W.cell? ⟨w.heap.size, 0, none⟩ = some (.int .i64 (f : Nat)) ∧ W.cell? ⟨w.heap.size, 1, none⟩ = some (.int .i64 (t : Nat)))
    ⟨H.out.alloc _, by rw [World.cell?_alloc_at _ _ _ _ rfl]; rfl, by rw [World.cell?_alloc_at _ _ _ _ rfl]; rfl⟩ ?_
  intro W ⟨hW, k0, k1⟩
  have hqb : w.heap.size ≠ bm := by omega
  generalize w.heap.size = q at k0 k1 hqb ⊢
  have HW := Lib.hid hW
  clear hW H hbm c0 c1 c2 c3 c4 n01 n02 n12
  obtain ⟨c0, c1, c2, c3, c4⟩ := qu_heads HW.out
  have n01 := HW.out.lay.ne_ 0 1 rfl rfl (by omega)
  have n02 := HW.out.lay.ne_ 0 2 rfl rfl (by omega)
  have n12 := HW.out.lay.ne_ 1 2 rfl rfl (by omega)
  have hl0 := qu_look (f, t) HW.out.drew hn ⟨hf, ht⟩
  by_cases hw0 : s.way (f, t) = 0
  · have HT := Lib.hid (show takeS n f t s = (5, s) from if_pos hw0)
    rw [hw0] at hl0
    have HL := Lib.hid hl0
    clear hl0 hw0
    refine wp_text_all (by kernel_rfl) (by kernel_rfl) (by kernel_rfl) (by repeat' (first | (with_reducible apply tame_then) | (with_reducible apply tame_block) | (with_reducible apply tame_scope) | exact tame_gives | exact tame_body (fun _ _ h => ⟨_, h.1⟩))) ?_
    go_wp2_with (refine wpList_look rfl (.tmp 14) (.tmp 15) _ rfl rfl rfl HL.out ?_)
    refine headed ?_
    go_wp2
    go_ret
    exact ⟨by rw [HT.out]; rfl, by rw [HT.out]; exact HW.out.drew.loosen fun _ _ h => EMap.more h (by omega)⟩
  · have hw1 : 1 ≤ s.way (f, t) := by have := hq.way (f, t); omega
    have hw2 := hw (f, t)
    have HNE := Lib.hid hw0
    have e1 : (s.way (f, t) == 0) = false := by rw [beq_eq_false_iff_ne]; exact hw0
    have HL := Lib.hid hl0
    clear hl0 hw0
    refine wp_text_all (by kernel_rfl) (by kernel_rfl) (by kernel_rfl) (by repeat' (first | (with_reducible apply tame_then) | (with_reducible apply tame_block) | (with_reducible apply tame_scope) | exact tame_gives | exact tame_body (fun _ _ h => ⟨_, h.1⟩))) ?_
    go_wp2_with (refine wpList_look rfl (.tmp 14) (.tmp 15) _ rfl rfl rfl HL.out ?_)
    refine headed ?_
    go_wp2
    refine wp_held_mask (WayS g bm q n (f, t) (s.way (f, t))) [true, true, true, true, true, true, true, false, false, false] ?A1 (by kernel_rfl) rfl (by kernel_rfl) (by repeat' (first | (with_reducible apply tame_then) | (with_reducible apply tame_block) | (with_reducible apply tame_scope) | exact tame_gives | exact tame_body (fun _ _ h => ⟨_, h.1⟩))) ⟨c4, k0, k1, qu_look (f, t) HW.out.drew.drew hn ⟨hf, ht⟩⟩ ?head ?tail
    case head =>
      intro W5 ⟨s0, s1, s2, s3⟩
      have s3 := Lib.hid s3
      simp only [pick]
      go_wp2_with (refine wpList_look rfl (.tmp 21) (.tmp 22) _ rfl rfl rfl s3.out ?_)
      exact taken
    case tail =>
      simp only [pick, List.map_cons, List.map_nil, Bool.not_true, Bool.not_false]
      obtain ⟨st, es1, cc, hme, hL1, hst⟩ := qu_entry (f, t) HW.out.drew.drew hn (by omega) ⟨hf, ht⟩
      obtain ⟨es', c', hse, hL2⟩ := hst (s.way (f, t) - 1)
      have hS : WayS g bm q n (f, t) (s.way (f, t)) (ChangeMaps.setBlock W.drew.drew bm (.map es1 cc)) := ⟨(qu_heads hL1).2.2.2.2, (cell_setBlock hqb).trans k0, (cell_setBlock hqb).trans k1, qu_look (f, t) hL1 hn ⟨hf, ht⟩⟩
      refine tail_step ?_
      refine wpList_mapEntry rfl (.tmp 21) (.tmp 22) _ rfl rfl rfl hme ?_
      clear hst HL
      refine holds hS ?_
      refine tail_step ?_
      have HX := Lib.hid (And.intro hme (And.intro hse (And.intro hS hL2)))
      clear hme hse hS hL2
      go_wp2
      refine holds HX.out.2.2.1 ?_
      refine tail_last ?_
      refine wpList_entryStore rfl (.tmp 21) (.tmp 26) (.tmp 24) _ rfl rfl rfl rfl HX.out.2.1 fun u => ?_
      refine at_layM (F := fun W' => wpList _ _ _ [] _ W') HX.out.2.2.2 ?_
      intro W2 hW2
      clear HX k0 k1 hqb c0 c1 c2 c3 c4 n01 n02 n12 e1
      have HW2 := Lib.hid hW2
      clear hW2 HW
      obtain ⟨d0, d1, d2, d3, d4⟩ := qu_heads HW2.out
      have n01 := HW2.out.lay.ne_ 0 1 rfl rfl (by omega)
      have n02 := HW2.out.lay.ne_ 0 2 rfl rfl (by omega)
      have n12 := HW2.out.lay.ne_ 1 2 rfl rfl (by omega)
      have b3 := qu_bound HW2.out ht
      have hwl : s.works < 4294967296 := by have := hq.works; have := pow64 hn; omega
      have HO := Lib.hid (or_pow (a := s.works) (m := t) hwl (by omega))
      have d1' : W2.cell? ⟨g, 1, none⟩ = some (.int .u32 (s.works : Nat)) := d1
      have b3' : W2.cell? ⟨gb, t, none⟩ = some (.int .i64 (s.bound t : Nat)) := b3
      have f1 := HW2.out.lay.frz 0 rfl (by omega) 1
      have f2 := HW2.out.lay.frz 1 rfl (by omega) f
      have f3 := HW2.out.lay.frz 2 rfl (by omega) t
      have HF := Lib.hid (And.intro f1 (And.intro f2 f3))
      clear d1 b3
      by_cases hb : t ≠ 0 ∧ s.bound t = t
      · have HT := Lib.hid (show takeS n f t s = _ from (if_neg HNE.out).trans (if_pos hb))
        have HS := Lib.hid (qu_setB f (qu_setW (s.works ||| 2 ^ t) HW2.out.drew) ht)
        obtain ⟨h0, h1⟩ := hb
        rw [h1] at b3'
        have e0 : ((t : Int) != 0) = true := by rw [bne_iff_ne]; omega
        clear h0 h1
        go_wp2
        refine wp_text 9 (by kernel_rfl) (by kernel_rfl) (by kernel_rfl) (by repeat' (first | (with_reducible apply tame_then) | (with_reducible apply tame_block) | (with_reducible apply tame_scope) | exact tame_gives | exact tame_body (fun _ _ h => ⟨_, h.1⟩))) ?_
        simp only [List.take_succ_cons, List.take_zero, List.drop_succ_cons, List.drop_zero]
        go_wp2
        refine headed ?_
        go_wp2
        go_ret
        exact ⟨by rw [HT.out]; rfl, by rw [HO.out, HT.out]; exact HS.out⟩
      · have HT := Lib.hid (show takeS n f t s = _ from (if_neg HNE.out).trans (if_neg hb))
        have HS := Lib.hid (qu_setO (s.owed f - 1) (qu_setW (s.works ||| 2 ^ t) HW2.out.drew) hf)
        have HQ := Lib.hid (hq.takeB hf ht hft HNE.out hb)
        have b2 : W2.cell? ⟨go, f, none⟩ = some (.int .i64 (s.owed f)) := qu_owed HW2.out hf
        have o1 := hq.owed_pos hf
        have o2 := ho f hf
        have HOB : Hid (∀ j, j < n → (takeO f t s).owed j ≤ 100) := Lib.hid fun j hj => by
          show upd s.owed f _ j ≤ 100
          rw [upd_apply]; split
          · omega
          · exact ho j hj
        have hcase : ((t : Int) != 0) = false ∨ (((t : Int) != 0) = true ∧ ((s.bound t : Int) == (t : Int)) = false) := by
          by_cases h0 : t = 0
          · exact .inl (by rw [bne_eq_false_iff_eq]; omega)
          · refine .inr ⟨by rw [bne_iff_ne]; omega, ?_⟩
            rw [beq_eq_false_iff_ne]
            intro h1
            exact hb ⟨h0, by omega⟩
        clear hb ho hw hq
        rcases hcase with e0 | ⟨e0, e1⟩
        all_goals
          go_wp2
          refine wp_text 9 (by kernel_rfl) (by kernel_rfl) (by kernel_rfl) (by repeat' (first | (with_reducible apply tame_then) | (with_reducible apply tame_block) | (with_reducible apply tame_scope) | exact tame_gives | exact tame_body (fun _ _ h => ⟨_, h.1⟩))) ?_
          simp only [List.take_succ_cons, List.take_zero, List.drop_succ_cons, List.drop_zero]
          go_wp2
          refine headed ?_
          go_wp2_with fail
          rw [HO.out]
          refine (loose_any g go gb n cap bm R _ w0 f (takeO f t s) _ hn hf HQ.out HOB.out HS.out).mono ?_
          rintro e w3 ⟨rfl, h3⟩
          have H3 := Lib.hid h3
          clear h3
          go_wp2
          go_ret
          exact ⟨by rw [HT.out]; rfl, by rw [HT.out]; exact H3.out.loosen fun _ _ h => wayφ_way h (looseS_way _ _ _)⟩
end
end Go.Proofs.Ytfcgjmekeonemaa
