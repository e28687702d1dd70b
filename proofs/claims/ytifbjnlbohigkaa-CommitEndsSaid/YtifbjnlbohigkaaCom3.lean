/- The walk of commit.Play. -/
import Derived.Test.YtifbjnlbohigkaaCom2
import Derived.Test.YtifbjnlbohigkaaNew
import Derived.Deep.CutRange
import Derived.Deep.CutBlock
set_option linter.unusedVariables false
set_option linter.unusedSimpArgs false
namespace Go.Proofs.Ytifbjnlbohigkaa
open Go.RowKit

theorem infoErrnoC : (Try.prog.info? 27).map (fun i => (i.zero, i.size, i.bytes)) = some (some (.int .i64 0), 1, 8) := by kernel_rfl
theorem infoIntC : (Try.prog.info? 3).map (fun i => (i.zero, i.size, i.bytes)) = some (some (.int .i64 0), 1, 8) := by kernel_rfl
theorem infoBoolC : (Try.prog.info? 4).map (fun i => (i.zero, i.size, i.bytes)) = some (some (.bool false), 1, 1) := by kernel_rfl

abbrev rowsP (g n gs gg gy : Nat) (s : CS) (A : Option Addr) (m cap b : Nat) (fc : Nat → Int) (o1 o2 : Value) : List LRow :=
  rowsC g n gs gg gy s [lst A 27 m cap (fun i => .int .i64 (fc i)), blk b 26 2 (ofL [o1, o2])]

def newsP (n : Nat) (i : Nat) : NSpec := ([.val (.int .i64 n), .new (fun g => .slice (some ⟨g, 0, none⟩) n n) (.cells (madeCells #[.int .i64 0] n) 3), .val (.int .i64 n), .new (fun g => .slice (some ⟨g, 0, none⟩) n n) (.cells (madeCells #[.bool false] n) 4),
  .val (.int .i64 n), .new (fun g => .slice (some ⟨g, 0, none⟩) n n) (.cells (madeCells #[.bool false] n) 4)] : List NSpec).getD i (.val undef)

set_option maxRecDepth 100000 in
set_option maxHeartbeats 1600000 in
theorem com_good (n m cap B : Nat) (A : Option Addr) (M : Mv) (w : World) (hn1 : 1 ≤ n) (hn : n ≤ 6) (hm : m ≤ 60) (hB : B ≤ w.heap.size) (hr : Rd w B A (m * 4) (mvF M)) :
    Calls Try.prog 7 #[.int .i64 n, .slice A m cap] w (Gives fun v w' => ∃ g gs gg gy A' cap', v = .tuple #[.agg #[.slice A' m cap', .slice (some ⟨gs, 0, none⟩) n n], .int .i64 0] ∧
      Lay w w' (rowsP g n gs gg gy (cmE n M m) A' m cap' w.heap.size (cmC n M) (.slice A' m cap') (.slice (some ⟨gs, 0, none⟩) n n))) := by
  have HR := Lib.hid hr; clear hr
  obtain ⟨iE, hiE, hzE0, hzE1, hzE2⟩ := info_parts infoErrnoC
  obtain ⟨iI, hiI, hzI0, hzI1, hzI2⟩ := info_parts infoIntC
  obtain ⟨iB, hiB, hzB0, hzB1, hzB2⟩ := info_parts infoBoolC
  go_enter Try.func7, Try.ntmps7
  go_upto_region 3 with (fail)
  refine at_world (F := fun W' => Code.wp _ _ _ _ W') (fun W => Lay w W [lst none 27 0 0 (fun i => .int .i64 (cmC n M i)), blk w.heap.size 26 2 (ofL [.slice none 0 0, .slice none 0 0])]) (((Lay.nil w).newB _ _ _ rfl _ rfl).lnil _ _ _) ?_
  intro W hW
  have HW := Lib.hid hW
  clear hW
  refine wp_news [0, 1, 2, 3, 4, 5] [22, 23, 24, 25, 26, 27] [6, 7, 8] 6 (newsP n) (by kernel_rfl) (by kernel_rfl) rfl (by decide) rfl (by kernel_rfl) ?ext ?fin
  case ext =>
    intro i hi o ho a w1 hb hold hf
    simp only [List.mem_cons, List.not_mem_nil, or_false] at hi
    rcases hi with rfl | rfl | rfl | rfl | rfl | rfl
    all_goals cases ho
    · exact nspec_move _ rfl (eval_tmp (hold 0 (by decide)))
    · exact nspec_mk _ _ rfl _ iI _ _ Try.underlying24 hiI hzI0 hzI1 hzI2 (eval_tmp (hf 0 22 _ rfl rfl rfl)) (by omega) (by omega)
    · exact nspec_move _ rfl (eval_tmp (hold 0 (by decide)))
    · exact nspec_mk _ _ rfl _ iB _ _ Try.underlying31 hiB hzB0 hzB1 hzB2 (eval_tmp (hf 2 24 _ rfl rfl rfl)) (by omega) (by omega)
    · exact nspec_move _ rfl (eval_tmp (hold 0 (by decide)))
    · exact nspec_mk _ _ rfl _ iB _ _ Try.underlying31 hiB hzB0 hzB1 hzB2 (eval_tmp (hf 4 26 _ rfl rfl rfl)) (by omega) (by omega)
  case fin =>
    intro y γ w2 hb hy hap
    have y0 : y 0 = .int .i64 n := hy 0 (by decide)
    have y2 : y 2 = .int .i64 n := hy 2 (by decide)
    have y4 : y 4 = .int .i64 n := hy 4 (by decide)
    obtain ⟨y1, l1, o1⟩ := hy 1 (by decide)
    obtain ⟨y3, l3, o3⟩ := hy 3 (by decide)
    obtain ⟨y5, l5, o5⟩ := hy 5 (by decide)
    have n13 := hap 1 (by decide) 3 (by decide) (by decide) rfl rfl
    have n15 := hap 1 (by decide) 5 (by decide) (by decide) rfl rfl
    have n35 := hap 3 (by decide) 5 (by decide) (by decide) rfl rfl
    simp only [List.drop_succ_cons, List.drop_zero, List.zip_cons_cons, List.zip_nil_right, List.foldl_cons, List.foldl_nil, y0, y1, y2, y3, y4, y5]
    simp only [Act.put, List.setIfInBounds_toArray, List.set_cons_zero, List.set_cons_succ]
    generalize γ 1 = gs at l1 o1 n13 n15 ⊢
    generalize γ 3 = gg at l3 o3 n13 n35 ⊢
    generalize γ 5 = gy at l5 o5 n15 n35 ⊢
    have hk := HW.out.keep hb
    have HL : Hid (Lay w w2 ([arr gs 3 n (fun _ => .int .i64 0), arr gg 4 n (fun _ => .bool false), arr gy 4 n (fun _ => .bool false)] ++ [lst none 27 0 0 (fun i => .int .i64 (cmC n M i)), blk w.heap.size 26 2 (ofL [.slice none 0 0, .slice none 0 0])])) := by
      refine HW.out.rows hb _ (fun r hr => ?_) (by simp [ablock]; omega)
      simp only [List.mem_cons, List.not_mem_nil, or_false] at hr
      rcases hr with rfl | rfl | rfl
      · exact ⟨HW.out.arr_at (z := .int .i64 0) (n := n) rfl l1 o1 (by unfold maxLen; omega) (fun _ _ => rfl), gs, rfl, l1⟩
      · exact ⟨HW.out.arr_at (z := .bool false) (n := n) rfl l3 o3 (by unfold maxLen; omega) (fun _ _ => rfl), gg, rfl, l3⟩
      · exact ⟨HW.out.arr_at (z := .bool false) (n := n) rfl l5 o5 (by unfold maxLen; omega) (fun _ _ => rfl), gy, rfl, l5⟩
    clear o1 o3 o5 n13 n15 n35 l1 l3 l5 y0 y1 y2 y3 y4 y5 hk hap hy hb HW
    go_wp2
    go_loopw [7, 32] (fun c i wr => ∃ j : Nat, j ≤ m ∧ i = .int .i64 j ∧ ∃ A' cap', c = .slice A' j cap' ∧ Hid (Lay w wr (rowsP w2.heap.size n gs gg gy (cmE n M j) A' j cap' w.heap.size (cmC n M) (.slice none 0 0) (.slice none 0 0)))) (fun _ i _ => m - (intOf i).toNat)
    case atStart => exact ⟨0, by omega, rfl, none, 0, rfl, HL.out.newB [.slice (some ⟨gs, 0, none⟩) n n, .slice (some ⟨gg, 0, none⟩) n n, .slice (some ⟨gy, 0, none⟩) n n] _ _ rfl _ rfl⟩
    case round =>
      clear HL
      generalize w2.heap.size = g at hrel
      obtain ⟨j, hj, rfl, A', cap', rfl, HQ⟩ := hrel
      by_cases hlt : j < m
      · obtain ⟨ad, rfl, hbl, m0, m1, m2, m3⟩ := (HR.out.below (HQ.out.bel.mono hB)).rec4 hlt
        clear hbl
        go_wp2_with fail
        clear m0 m1 m2 m3
        refine (do_any g n gs gg gy _ _ w _ (M.k j) (M.f j) (M.t j) (M.v j) hn1 hn (HQ.out.alloc _)).mono ?_
        rintro e w3 ⟨rfl, hq⟩
        have HQ3 : Hid (Lay w w3 (rowsP g n gs gg gy (cmE n M (j + 1)) A' j cap' w.heap.size (cmC n M) (.slice none 0 0) (.slice none 0 0))) := hq
        clear hq
        go_wp2_with (at_builtin; refine wpList_ap1 rfl (.tmp 36) (.tmp 40) _ rfl 27 iE _ 8 Try.underlying23 hiE hzE0 hzE1 hzE2 rfl w.heap.size rfl ((HQ3.out.alloc _).own 4 _ rfl) rfl (cell_new _ _ _ _ _ rfl (one_cell _)) (fun _ _ => rfl) (fun i => .int .i64 (cmC n M i)) (fun _ _ => rfl) (one_at rfl) (j + 1) rfl (by unfold maxLen; omega) (by omega) (by have := HQ3.out.size; simp; omega) ?_; intro A2 cap2 w4 ho hg ha
                     have HQ4 := Lib.hid ((HQ3.out.alloc _).app 4 rfl ho hg ha)
                     clear ho hg ha)
        go_roundw
        case rel => exact ⟨j + 1, by omega, by go_num, A2, cap2, rfl, HQ4.out⟩
        case measure => simp [intOf]; omega
      · obtain rfl : j = m := by omega
        have c0 := HQ.out.cellB 0 rfl 0 (by omega)
        have r0 := HQ.out.cellB 5 rfl 0 (by omega)
        have r1 := HQ.out.cellB 5 rfl 1 (by omega)
        have f0 := HQ.out.frz 5 rfl (by omega) 0
        have f1 := HQ.out.frz 5 rfl (by omega) 1
        simp only [ofL_0, ofL_1] at c0 r0 r1
        go_wp2
        have hF := (HQ.out.fld 5 0 (.slice A' j cap') rfl (by omega) (by simp)).fld 5 1 (.slice (some ⟨gs, 0, none⟩) n n) rfl (by omega) (by simp)
        clear c0 r0 r1 f0 f1
        generalize (wr.setCell ⟨w.heap.size, 0, none⟩ (.slice A' j cap')).setCell ⟨w.heap.size, 1, none⟩ (.slice (some ⟨gs, 0, none⟩) n n) = W9 at hF ⊢
        have r0 : W9.cell? ⟨w.heap.size, 0, none⟩ = some (.slice A' j cap') := hF.cellB 5 rfl 0 (by omega)
        have r1 : W9.cell? ⟨w.heap.size, 1, none⟩ = some (.slice (some ⟨gs, 0, none⟩) n n) := hF.cellB 5 rfl 1 (by omega)
        exact bodyPost_ret (v := .tuple #[.agg #[.slice A' j cap', .slice (some ⟨gs, 0, none⟩) n n], .int .i64 0]) (by simp [results, Try.results7, go_sem, r0, r1]) rfl ⟨_, rfl, g, gs, gg, gy, A', cap', rfl, hF⟩
theorem com_bad (n : Int) (m cap : Nat) (A : Option Addr) (w : World) (hm : m ≤ maxLen) (hb : ¬ (1 ≤ n ∧ n ≤ 6 ∧ (m : Int) ≤ 60)) :
    Calls Try.prog 7 #[.int .i64 n, .slice A m cap] w fun e w' => e = .returned (.tuple #[.agg #[.slice none 0 0, .slice none 0 0], .int .i64 1]) ∧ Below w.heap.size w w' := by
  unfold maxLen at hm
  have h' : n < 1 ∨ 6 < n ∨ 60 < (m : Int) := by omega
  clear hb
  go_enter Try.func7, Try.ntmps7
  go_wp2
  all_goals first
    | (exfalso; omega)
    | ((try simp only [Exit.inBlock, Exit.then]); refine bodyPost_ret (v := .tuple #[.agg #[.slice none 0 0, .slice none 0 0], .int .i64 1]) (by simp [results, Try.results7, go_sem]) rfl ?_; exact ⟨rfl, (((Below.refl _ _).alloc (Nat.le_refl _) _).setCell (by simp) _).setCell (by simp) _⟩)
    | ((try simp only [Exit.inBlock, Exit.then]); refine bodyPost_ret (v := .tuple #[.agg #[.slice none 0 0, .slice none 0 0], .int .i64 1]) (by simp [results, Try.results7, go_sem]) rfl ?_; exact ⟨rfl, (Below.refl _ _).alloc (Nat.le_refl _) _⟩)
end Go.Proofs.Ytifbjnlbohigkaa
