/- The walk of token's 'stand'. -/
import Derived.Test.YtihkbkbbllmliaaTk2
set_option linter.unusedVariables false
set_option linter.unusedSimpArgs false
namespace Go.Proofs.Ytihkbkbbllmliaa
open Go.RowKit Go.Maps Go.MapKept

def RowS (g go n i : Nat) (v : Value) (w : World) : Prop := w.cell? ⟨g, 1, none⟩ = some (.slice (some ⟨go, 0, none⟩) n n) ∧ w.cell? ⟨go, i, none⟩ = some v
theorem infoIntK : (Try.prog.info? 3).map (fun i => (i.zero, i.size, i.bytes)) = some (some (.int .i64 0), 1, 8) := by kernel_rfl
section
variable (g gp go bm n cp : Nat) (R : List LRow) (w0 : World)
set_option maxRecDepth 100000 in
set_option maxHeartbeats 1600000 in
theorem stand_any (i who : Nat) (f : FK → Value) (s : KS) (w : World) (hn : n ≤ 6) (hi : i < n) (hwho : who < n) (hpt : s.pt i < n) (hrow : ∀ x, x ∈ s.row i → x < n) (hrl : (s.row i).length ≤ 900) (hq : ShortK 900 s) (h : LayK g gp go bm n cp R w0 f s w) :
    Calls Try.prog 31 #[.pointer (some ⟨g, 0, none⟩), .int .i64 i, .int .i64 who] w fun e w' => e = .returned (.tuple #[]) ∧ ∃ f', LayK g gp go bm n cp R w0 f' (standK i who s) w' := by
  obtain ⟨iI, hiI, hzI0, hzI1, hzI2⟩ := info_parts infoIntK
  have HW := Lib.hid h; clear h
  have HSH := Lib.hid hq; clear hq
  obtain ⟨r, hr⟩ : ∃ r, r = standK i who s := ⟨_, rfl⟩
  rw [← hr]
  have HR0 := Lib.hid hr; clear hr
  obtain ⟨A, cap, hf, hcl, hcm⟩ := HW.out.len (.inr i)
  have hlen : (qsK s (.inr i)).length = (s.row i).length := vK_len _
  rw [hlen] at hf hcl
  have HF := Lib.hid hf
  clear hf hlen
  have HS : Hid (∀ (W' : World) (Q' : List MRow) (f' : FK → Value) (q' : FK → List Value), LayQ w0 W' (rowsK g gp go bm n cp f s R) Q' tyK f' q' → RowS g go n i (.slice A (s.row i).length cap) W') :=
    Lib.hid fun W' Q' f' q' h => ⟨h.lay.cellB 0 rfl 1 (by omega), by rw [← HF.out]; exact h.lay.cell1 2 rfl hi⟩
  have HS0 := Lib.hid (HS.out _ _ _ _ HW.out.drew)
  go_enter Try.func31, Try.ntmps31
  go_wp2
  refine wp_held_mask (RowS g go n i (.slice A (s.row i).length cap)) [true, true, true, true, true, true, true, true, true, true, true, true, true, false, false, false, false] ?A1 (by kernel_rfl) rfl (by kernel_rfl) (by repeat' (first | (with_reducible apply tame_then) | (with_reducible apply tame_block) | (with_reducible apply tame_scope) | exact tame_gives | exact tame_body (fun _ _ h => ⟨_, h.1⟩))) HS0.out ?head ?tail
  case head =>
    intro W5 ⟨s0, s1⟩
    simp only [pick]
    go_wp2
    exact taken
  case tail =>
    simp only [pick, List.map_cons, List.map_nil, Bool.not_true, Bool.not_false]
    have HA := Lib.hid (HW.out.drew.alloc (.cells #[.int .i64 (who : Nat)] 3))
    refine tail_step ?_
    go_wp2
    refine holds (HS.out _ _ _ _ HA.out) ?_
    refine tail_step ?_
    have HO : Hid (QSl (w.drew.alloc (.cells #[.int .i64 (who : Nat)] 3)) w0.heap.size 3 (.slice A (s.row i).length cap) (vK (s.row i))) := Lib.hid (by
      have := HA.out.own (.inr i)
      rw [HF.out] at this
      exact this)
    have HC : Hid ((w.drew.alloc (.cells #[.int .i64 (who : Nat)] 3)).cell? ⟨w.drew.heap.size, 0, none⟩ = some (.int .i64 (who : Nat))) := Lib.hid (cell_one w.drew _ _)
    refine wpList_apQ rfl (.tmp 17) (.tmp 19) _ rfl 3 iI _ 8 Try.underlying36 hiI hzI0 hzI1 hzI2 rfl w0.heap.size rfl HO.out rfl HC.out rfl ((s.row i).length + 1) (by rw [vK_len]) (by rw [vK_len]; unfold maxLen; omega) (by rw [vK_len]; omega) HA.out.size ?_
    intro A2 cap2 w4 hq4 hg4 hb4
    have H4 := Lib.hid (HA.out.push (.inr i) hq4 (by rw [HF.out, own_ab]; exact hg4) (by rw [HF.out, own_ab, own_ab]; exact hb4))
    rw [vK_app] at H4
    clear hq4 hg4 hb4 HO HA HC
    have HS4 := Lib.hid (HS.out _ _ _ _ H4.out)
    refine holds HS4.out ?_
    refine tail_step ?_
    go_wp2
    refine holds HS4.out ?_
    refine tail_last ?_
    have f2 := H4.out.lay.frz 2 rfl (by omega) i
    have cr := HS4.out.2
    have HL := Lib.hid (tk_row H4.out hi)
    obtain ⟨c0, c1, c2, c3, c4⟩ : w4.cell? ⟨g, 0, none⟩ = some (.slice (some ⟨gp, 0, none⟩) n cp) ∧ w4.cell? ⟨g, 1, none⟩ = some (.slice (some ⟨go, 0, none⟩) n n) ∧ w4.cell? ⟨g, 2, none⟩ = some (.int .i64 s.has) ∧ w4.cell? ⟨g, 3, none⟩ = some (.int .i64 s.inn) ∧ w4.cell? ⟨g, 4, none⟩ = some (.map (some bm)) :=
      ⟨H4.out.lay.cellB 0 rfl 0 (by omega), H4.out.lay.cellB 0 rfl 1 (by omega), H4.out.lay.cellB 0 rfl 2 (by omega), H4.out.lay.cellB 0 rfl 3 (by omega), H4.out.lay.cellB 0 rfl 4 (by omega)⟩
    have c5 : w4.cell? ⟨gp, i, none⟩ = some (.int .i64 (s.pt i : Nat)) := H4.out.lay.cell1 1 rfl hi
    have n01 := H4.out.lay.ne_ 0 1 rfl rfl (by omega)
    have n02 := H4.out.lay.ne_ 0 2 rfl rfl (by omega)
    have n12 := H4.out.lay.ne_ 1 2 rfl rfl (by omega)
    clear c2 c3 c4
    have HSA : Hid (ShortK 900 (addK i who s)) := Lib.hid (ShortK.row HSH.out)
    by_cases hl : (s.row i).length = 0
    · have hl1 : ((s.row i ++ [who]).length = 1) := by simp [hl]
      rw [hl] at HL cr
      by_cases hp : s.pt i = i
      · have e1 : ((s.pt i : Int) != (i : Int)) = false := by rw [bne_eq_false_iff_eq]; omega
        have HR : Hid (r = giveK i (addK i who s)) := Lib.hid (HR0.out.trans (by
          unfold standK askK
          rw [if_neg (fun hh => hh.2 hp)]))
        go_wp2_with fail
        refine (give_any g gp go bm n cp R w0 i _ _ _ hn hi (by
          intro x hx
          change x ∈ upd s.row i _ i at hx
          rw [upd_same] at hx
          rcases List.mem_append.1 hx with h1 | h1
          · exact hrow x h1
          · rw [List.mem_singleton] at h1
            omega
          ) (by
            show (upd s.row i _ i).length ≤ 1000
            rw [upd_same, List.length_append, List.length_singleton]
            omega
          ) (ShortK.mono HSA.out (by omega)) (tk_sim HL.out ⟨rfl, rfl, rfl, rfl⟩)).mono ?_
        rintro e w7 ⟨rfl, f7, h7⟩
        have H7 := Lib.hid h7
        clear h7
        go_wp2
        go_end0
        exact ⟨rfl, _, by rw [HR.out]; exact H7.out⟩
      · have e1 : ((s.pt i : Int) != (i : Int)) = true := by rw [bne_iff_ne]; omega
        have HR : Hid (r = giveK i (sendK i (s.pt i) false (addK i who s))) := Lib.hid (HR0.out.trans (by
          unfold standK askK
          rw [if_pos ⟨by show (upd s.row i _ i).length = 1; rw [upd_same]; exact hl1, hp⟩]; rfl))
        go_wp2_with fail
        refine (sendK_any g gp go bm n cp R w0 i (s.pt i) false _ _ _ hn hi hpt (HSA.out.mono (by omega)) (tk_sim HL.out ⟨rfl, rfl, rfl, rfl⟩)).mono ?_
        rintro e w6 ⟨rfl, f6, h6⟩
        have H6 := Lib.hid h6
        clear h6
        go_wp2_with fail
        refine (give_any g gp go bm n cp R w0 i _ _ _ hn hi (by
          intro x hx
          change x ∈ upd s.row i _ i at hx
          rw [upd_same] at hx
          rcases List.mem_append.1 hx with h1 | h1
          · exact hrow x h1
          · rw [List.mem_singleton] at h1
            omega
          ) (by
            show (upd s.row i _ i).length ≤ 1000
            rw [upd_same, List.length_append, List.length_singleton]
            omega
          ) (ShortK.mono (HSA.out.send) (by omega)) (tk_sim H6.out ⟨rfl, rfl, rfl, rfl⟩)).mono ?_
        rintro e w7 ⟨rfl, f7, h7⟩
        have H7 := Lib.hid h7
        clear h7
        go_wp2
        go_end0
        exact ⟨rfl, _, by rw [HR.out]; exact H7.out⟩
    · have e0 : (((s.row i).length : Int) + 1 == 1) = false := by rw [beq_eq_false_iff_ne]; omega
      have HR : Hid (r = giveK i (addK i who s)) := Lib.hid (HR0.out.trans (by
        unfold standK askK
        rw [if_neg (fun hh => hl (by have h1 := hh.1; change (upd s.row i _ i).length = 1 at h1; rw [upd_same] at h1; simpa using h1))]))
      go_wp2_with fail
      refine (give_any g gp go bm n cp R w0 i _ _ _ hn hi (by
        intro x hx
        change x ∈ upd s.row i _ i at hx
        rw [upd_same] at hx
        rcases List.mem_append.1 hx with h1 | h1
        · exact hrow x h1
        · rw [List.mem_singleton] at h1
          omega
        ) (by
          show (upd s.row i _ i).length ≤ 1000
          rw [upd_same, List.length_append, List.length_singleton]
          omega
        ) (ShortK.mono HSA.out (by omega)) (tk_sim HL.out ⟨rfl, rfl, rfl, rfl⟩)).mono ?_
      rintro e w7 ⟨rfl, f7, h7⟩
      have H7 := Lib.hid h7
      clear h7
      go_wp2
      go_end0
      exact ⟨rfl, _, by rw [HR.out]; exact H7.out⟩
end
end Go.Proofs.Ytihkbkbbllmliaa
