/- The walk of merge.Play. -/
import Derived.Test.YtdgegbdkimdpjaaMe8
set_option linter.unusedVariables false
set_option linter.unusedSimpArgs false
namespace Go.Proofs.Ytdgegbdkimdpjaa
open Go.RowKit Go.Maps Go.MapKept

theorem infoErrnoM : (Try.prog.info? 29).map (fun i => (i.zero, i.size, i.bytes)) = some (some (.int .i64 0), 1, 8) := by kernel_rfl
theorem infoSlM : (Try.prog.info? 26).map (fun i => (i.zero, i.size, i.bytes)) = some (some (.slice none 0 0), 1, 24) := by kernel_rfl
theorem infoIntM : (Try.prog.info? 3).map (fun i => (i.zero, i.size, i.bytes)) = some (some (.int .i64 0), 1, 8) := by kernel_rfl
theorem infoRepM : (Try.prog.info? 49).map (fun i => (i.zero, i.size, i.bytes)) = some (some (.agg #[.map none, .map none, .slice none 0 0, .slice none 0 0]), 4, 64) := by kernel_rfl
abbrev blkO (b : Nat) (l : List Value) : LRow := blk b 28 3 (ofL l)
abbrev lstM (A : Option Addr) (m cap : Nat) (fc : Nat → Int) : LRow := lst A 29 m cap (fun i => .int .i64 (fc i))
abbrev zeroM : List Value := [.slice none 0 0, .slice none 0 0, .slice none 0 0]
/-- What the loads of 'out.Codes = append(out.Codes, a.do(m))' read. -/
def MvSM (b q : Nat) (C : Value) (k f t v : Int) (w : World) : Prop :=
  w.cell? ⟨b, 0, none⟩ = some C ∧ w.cell? ⟨q, 0, none⟩ = some (.int .i64 k) ∧ w.cell? ⟨q, 1, none⟩ = some (.int .i64 f) ∧ w.cell? ⟨q, 2, none⟩ = some (.int .i64 t) ∧ w.cell? ⟨q, 3, none⟩ = some (.int .i64 v)
theorem MvSM.of {w0 w : World} {L : List LRow} {b q : Nat} {C : Value} {l : List Value} {k f t v : Int} (h : Lay w0 w L) (i j : Nat) (hi : L[i]? = some (blkO b (C :: l))) (hj : L[j]? = some (mvB q k f t v)) : MvSM b q C k f t v w :=
  ⟨h.cellB i hi 0 (by omega), h.cellB j hj 0 (by omega), h.cellB j hj 1 (by omega), h.cellB j hj 2 (by omega), h.cellB j hj 3 (by omega)⟩
theorem me_next (n : Nat) (M : Mv) (j : Nat) : (meDo n (meSt n M j) (M.k j) (M.f j) (M.t j) (M.v j)).1 = meSt n M (j + 1) := rfl
set_option maxRecDepth 100000 in
set_option maxHeartbeats 6400000 in
theorem play_good (n m cap B : Nat) (A : Option Addr) (M : Mv) (w : World) (hn1 : 1 ≤ n) (hn : n ≤ 6) (hm : m ≤ 60) (hB : B ≤ w.heap.size) (hr : Rd w B A (m * 4) (mvF M)) :
    Calls Try.prog 8 #[.int .i64 n, .slice A m cap] w (Gives fun v w' => Below w.heap.size w w' ∧ MRes n m M v w') := by
  have HR := Lib.hid hr; clear hr
  obtain ⟨iE, hiE, hzE0, hzE1, hzE2⟩ := info_parts infoErrnoM
  obtain ⟨iS, hiS, hzS0, hzS1, hzS2⟩ := info_parts infoSlM
  obtain ⟨iI, hiI, hzI0, hzI1, hzI2⟩ := info_parts infoIntM
  obtain ⟨iR, hiR, hzR0, hzR1, hzR2⟩ := info_parts infoRepM
  have hmm := @run_makeMap Try.prog
  have HL0 : Hid (LayE (w.heap.size + 1) 0 n 0 none (fun _ => 0) [blkO w.heap.size zeroM] w (fun _ => .slice none 0 0) MeS0 ((w.alloc (.cells #[.slice none 0 0, .slice none 0 0, .slice none 0 0] 28)).alloc (.cells #[.slice none 0 0, .int .i64 0] 46))) := Lib.hid (by
    have h1 := (((Lay.nil w).newB zeroM 28 3 rfl _ rfl).newB [.slice none 0 0, .int .i64 0] 46 2 rfl (w.heap.size + 1) (by simp)).lnil 49 4 (repF (fun _ => 0) (fun _ => .slice none 0 0))
    exact (h1.swap.toM.toQ tyE).sameQ fun a => if_neg (by omega))
  go_enter Try.func8, Try.ntmps8
  go_wp2
  generalize w.heap.size + 1 = g at HL0 ⊢
  go_loopw [31] (fun v wr => ∃ (i cl : Nat) (AL : Option Addr) (bm : Nat → Nat) (f : Nat → Value), i ≤ n ∧ v = .int .i64 i ∧ Hid (LayE g cl n i AL bm [blkO w.heap.size zeroM] w f MeS0 wr)) (fun v _ => n - (intOf v).toNat)
  case atStart => exact ⟨0, _, _, _, _, by omega, rfl, HL0⟩
  case round =>
    clear HL0
    obtain ⟨i, cl, AL, bm, f, hi, rfl, HQ⟩ := hrel
    by_cases hlt : i < n
    · obtain ⟨c0, c1⟩ := me_heads HQ.out
      have hg := (HQ.out.lay.at_ 0 rfl).2
      go_wp2
      refine wp_newFY (P := Try.prog) 0 (.pointer (some ⟨g, 0, none⟩)) _ [0, 1, 2, 3, 4, 5, 6, 7, 8, 9, 10, 11, 12] [33, 34, 35, 36, 37, 38, 39, 40, 41, 42, 43, 44, 45] [13, 14, 15, 16] 13 newMB (newM g n i cl AL) (by kernel_rfl) (by kernel_rfl) (by decide) rfl (by kernel_rfl) (by kernel_rfl) (by kernel_rfl) (by repeat' (first | (with_reducible apply tame_then) | (with_reducible apply tame_block) | (with_reducible apply tame_scope) | exact tame_gives | exact tame_body (fun _ _ h => ⟨_, h.1⟩))) ?hzy (fun y w h => h) rfl (by simp) rfl (by decide) rfl (by kernel_rfl) (newM_keep g n i cl AL) ?cong ?ext ?fin
      case hzy => exact .inl ⟨by kernel_rfl, fun w => by go_simp⟩
      case cong =>
        intro k hk y y' γ w1 h1 h2 h3
        simp only [List.mem_cons, List.not_mem_nil, or_false] at hk
        rcases hk with rfl | rfl | rfl | rfl | rfl | rfl | rfl | rfl | rfl | rfl | rfl | rfl | rfl
        · exact h1.trans h3
        · exact h1.trans h3
        · exact h1.trans h3
        · exact h1.trans h3
        · exact h1.trans h3
        · exact ⟨h1.trans h3.1, h3.2⟩
        · exact ⟨h1.trans h3.1, h3.2⟩
        · exact h1.trans h3
        · exact ⟨h1.trans h3.1, h3.2⟩
        · exact h1.trans h3
        · exact ⟨h1.trans h3.1, h3.2⟩
        · have e1 := h2 _ rfl 5 rfl
          have e2 := h2 _ rfl 6 rfl
          have e3 := h2 _ rfl 8 rfl
          have e4 := h2 _ rfl 10 rfl
          obtain ⟨b1, b2, u1, u2, f1, f2, f3, f4, f5⟩ := h3
          exact ⟨b1, b2, u1, u2, h1.trans f1, e1.trans f2, e2.trans f3, e3.trans f4, e4.trans f5⟩
        · obtain ⟨h4, c0, c1, c2, c3, h5, h6⟩ := h3
          exact ⟨h1.trans h4, c0, c1, c2, c3, (h2 _ rfl 11 rfl).trans h5, h6⟩
      case ext =>
        intro k hk o ho a w2 hb hold hf
        have gd : ∀ (d : Nat) (v : Value), a.tmps.getD d undef = v → a.tmps[d]?.getD undef = v := fun d v h => by rw [← Array.getD_eq_getD_getElem?]; exact h
        simp only [List.mem_cons, List.not_mem_nil, or_false] at hk
        rcases hk with rfl | rfl | rfl | rfl | rfl | rfl | rfl | rfl | rfl | rfl | rfl | rfl | rfl
        all_goals cases ho
        · have h0 : a.tmps[6]?.getD undef = .pointer (some ⟨g, 0, none⟩) := hold 6 (by decide)
          exact does_at (.pointer (some ⟨g, 0, none⟩)) (by go_simp) rfl rfl
        · have h0 : a.tmps[6]?.getD undef = .pointer (some ⟨g, 0, none⟩) := hold 6 (by decide)
          exact does_at (.pointer (some ⟨g, 0, none⟩)) (by go_simp) rfl rfl
        · obtain ⟨g0, h0⟩ := hf 1 rfl
          have h0 : a.tmps[34]?.getD undef = .pointer (some ⟨g, 0, none⟩) := gd _ _ h0
          exact does_at (.pointer (some ⟨g, 0, none⟩)) (by go_simp) rfl rfl
        · obtain ⟨g0, h0⟩ := hf 2 rfl
          have h0 : a.tmps[35]?.getD undef = .pointer (some ⟨g, 0, none⟩) := gd _ _ h0
          exact does_at (.pointer (some ⟨g, 0, none⟩)) (by go_simp) rfl rfl
        · obtain ⟨g0, h0⟩ := hf 3 rfl
          have h0 : a.tmps[36]?.getD undef = .pointer (some ⟨g, 0, none⟩) := gd _ _ h0
          have hcl : w2.cell? ⟨g, 0, none⟩ = some (.slice AL i cl) := (hb.cell hg).trans c0
          exact does_at (.slice AL i cl) (by go_simp) rfl rfl
        · exact does_made (.map (some w2.heap.size)) (.map #[] 0) (by go_simp) ⟨rfl, heap_alloc_new _ _⟩
        · exact does_made (.map (some w2.heap.size)) (.map #[] 0) (by go_simp) ⟨rfl, heap_alloc_new _ _⟩
        · have h0 : a.tmps[0]?.getD undef = .int .i64 n := hold 0 (by decide)
          exact does_at (.int .i64 n) (by go_simp) rfl rfl
        · obtain ⟨g0, h0⟩ := hf 7 rfl
          have h0 : a.tmps[40]?.getD undef = .int .i64 n := gd _ _ h0
          exact does_made (.slice (some ⟨w2.heap.size, 0, none⟩) n n) (.cells (madeCells #[.int .i64 0] n) 3) (nspec_mk _ _ rfl _ iI _ _ Try.underlying26 hiI hzI0 hzI1 hzI2 (eval_tmp h0) (by omega) (by omega)) ⟨rfl, heap_alloc_new _ _⟩
        · have h0 : a.tmps[0]?.getD undef = .int .i64 n := hold 0 (by decide)
          exact does_at (.int .i64 n) (by go_simp) rfl rfl
        · obtain ⟨g0, h0⟩ := hf 9 rfl
          have h0 : a.tmps[42]?.getD undef = .int .i64 n := gd _ _ h0
          exact does_made (.slice (some ⟨w2.heap.size, 0, none⟩) n n) (.cells (madeCells #[.int .i64 0] n) 3) (nspec_mk _ _ rfl _ iI _ _ Try.underlying26 hiI hzI0 hzI1 hzI2 (eval_tmp h0) (by omega) (by omega)) ⟨rfl, heap_alloc_new _ _⟩
        · obtain ⟨g5, h5, -⟩ := hf 5 rfl
          obtain ⟨g6, h6, -⟩ := hf 6 rfl
          obtain ⟨g8, h8, -⟩ := hf 8 rfl
          obtain ⟨g10, h10, -⟩ := hf 10 rfl
          have k5 : a.tmps[38]?.getD undef = .map (some g5) := gd _ _ h5
          have k6 : a.tmps[39]?.getD undef = .map (some g6) := gd _ _ h6
          have k8 : a.tmps[41]?.getD undef = .slice (some ⟨g8, 0, none⟩) n n := gd _ _ h8
          have k10 : a.tmps[43]?.getD undef = .slice (some ⟨g10, 0, none⟩) n n := gd _ _ h10
          refine does_at (.agg #[.map (some g5), .map (some g6), .slice (some ⟨g8, 0, none⟩) n n, .slice (some ⟨g10, 0, none⟩) n n]) (by go_simp) ?_ rfl
          exact ⟨g5, g6, g8, g10, rfl, h5, h6, h8, h10⟩
        · obtain ⟨g11, b1, b2, u1, u2, h11, -, -, -, -⟩ := hf 11 rfl
          have k11 : a.tmps[44]?.getD undef = .agg #[.map (some b1), .map (some b2), .slice (some ⟨u1, 0, none⟩) n n, .slice (some ⟨u2, 0, none⟩) n n] := gd _ _ h11
          exact does_made (.slice (some ⟨w2.heap.size, 0, none⟩) 1 1) (.cells #[.map (some b1), .map (some b2), .slice (some ⟨u1, 0, none⟩) n n, .slice (some ⟨u2, 0, none⟩) n n] 49) (by go_simp) ⟨rfl, b1, b2, u1, u2, h11, heap_alloc_new _ _⟩
      case fin =>
        intro y γ w2 hb hy hn2 hap
        have y0 : y 0 = .pointer (some ⟨g, 0, none⟩) := hy 0 (by decide)
        have y1 : y 1 = .pointer (some ⟨g, 0, none⟩) := hy 1 (by decide)
        have y2 : y 2 = .pointer (some ⟨g, 0, none⟩) := hy 2 (by decide)
        have y3 : y 3 = .pointer (some ⟨g, 0, none⟩) := hy 3 (by decide)
        have y4 : y 4 = .slice AL i cl := hy 4 (by decide)
        have y7 : y 7 = .int .i64 n := hy 7 (by decide)
        have y9 : y 9 = .int .i64 n := hy 9 (by decide)
        obtain ⟨y5, o5⟩ := hy 5 (by decide)
        obtain ⟨y6, o6⟩ := hy 6 (by decide)
        obtain ⟨y8, o8⟩ := hy 8 (by decide)
        obtain ⟨y10, o10⟩ := hy 10 (by decide)
        obtain ⟨b1', b2', u1', u2', y11, p5, p6, p8, p10⟩ := hy 11 (by decide)
        rw [y5] at p5
        rw [y6] at p6
        rw [y8] at p8
        rw [y10] at p10
        injection p5 with p5
        injection p5 with p5
        injection p6 with p6
        injection p6 with p6
        injection p8 with p8 _ _
        injection p8 with p8
        injection p8 with p8 _
        injection p10 with p10 _ _
        injection p10 with p10
        injection p10 with p10 _
        subst p5; subst p6; subst p8; subst p10
        obtain ⟨y12, d0, d1, d2, d3, q11, o12⟩ := hy 12 (by decide)
        rw [y11] at q11
        injection q11 with q11
        have q0 := congrArg (fun a => a[0]?) q11
        have q1 := congrArg (fun a => a[1]?) q11
        have q2 := congrArg (fun a => a[2]?) q11
        have q3 := congrArg (fun a => a[3]?) q11
        simp at q0 q1 q2 q3
        subst q0; subst q1; subst q2; subst q3
        clear q11
        obtain ⟨l5, -⟩ := hn2 5 (by decide) rfl
        obtain ⟨l6, -⟩ := hn2 6 (by decide) rfl
        obtain ⟨l8, -⟩ := hn2 8 (by decide) rfl
        obtain ⟨l10, -⟩ := hn2 10 (by decide) rfl
        obtain ⟨l12, l12'⟩ := hn2 12 (by decide) rfl
        have n56 := hap 5 (by decide) 6 (by decide) (by decide) rfl rfl
        have n810 := hap 8 (by decide) 10 (by decide) (by decide) rfl rfl
        simp only [List.drop_succ_cons, List.drop_zero, List.zip_cons_cons, List.zip_nil_right, List.foldl_cons, List.foldl_nil, y0, y1, y2, y3, y4, y5, y6, y7, y8, y9, y10, y11, y12]
        simp only [Act.put, List.setIfInBounds_toArray, List.set_cons_zero, List.set_cons_succ]
        generalize γ 12 = x12 at l12 l12' o12 ⊢
        generalize γ 5 = b1 at l5 o5 n56 o12 ⊢
        generalize γ 6 = b2 at l6 o6 n56 o12 ⊢
        generalize γ 8 = u1 at l8 o8 n810 o12 ⊢
        generalize γ 10 = u2 at l10 o10 n810 o12 ⊢
        have HG := Lib.hid (me_grow hn HQ.out hb l5 l6 l8 l10 n56 n810 o5 o6 o8 o10)
        clear o5 o6 o8 o10 n56 n810 l5 l6 l8 l10 y0 y1 y2 y3 y4 y5 y6 y7 y8 y9 y10 y11 y12 hap hy hn2 hb HQ c0 c1 hg
        generalize hbm : upd (upd bm (2 * i) b1) (2 * i + 1) b2 = bm2 at HG
        generalize hff : fput (fput f (2 * i) (.slice (some ⟨u1, 0, none⟩) n n)) (2 * i + 1) (.slice (some ⟨u2, 0, none⟩) n n) = f2 at HG
        have HREP : Hid (∀ j, j < 4 → repF bm2 f2 (i * 4 + j) = ofL [.map (some b1), .map (some b2), .slice (some ⟨u1, 0, none⟩) n n, .slice (some ⟨u2, 0, none⟩) n n] j) := Lib.hid (fun j hj => by
          subst hbm; subst hff
          have e1 : (i * 4 + j) / 4 = i := by omega
          have e2 : (i * 4 + j) % 4 = j := by omega
          unfold repF
          rw [e1, e2]
          rcases (show j = 0 ∨ j = 1 ∨ j = 2 ∨ j = 3 by omega) with rfl | rfl | rfl | rfl
          · rw [if_pos rfl, upd_ne _ _ (by omega), upd_same]; rfl
          · rw [if_neg (by omega), if_pos rfl, upd_same]; rfl
          · rw [if_neg (by omega), if_neg (by omega), if_pos rfl, fput_ne (by omega), fput_same]; rfl
          · rw [if_neg (by omega), if_neg (by omega), if_neg (by omega), fput_same]; rfl)
        clear hbm hff
        have HA := HG
        have HX : Hid (Rd w2 (x12 + 1) (some ⟨x12, 0, none⟩) (1 * 4) (ofL [.map (some b1), .map (some b2), .slice (some ⟨u1, 0, none⟩) n n, .slice (some ⟨u2, 0, none⟩) n n])) := Lib.hid (fun _ => ⟨_, rfl, by simp, fun j hj => by
          have : (⟨x12, 0, none⟩ : Addr).add j = ⟨x12, j, none⟩ := by unfold Addr.add; split <;> simp_all
          rw [this, cell_of_row w2 x12 j _ _ _ o12]
          rcases (show j = 0 ∨ j = 1 ∨ j = 2 ∨ j = 3 by omega) with rfl | rfl | rfl | rfl <;> rfl⟩)
        clear HG o12 l12 l12'
        go_wp2_with (first
          | (at_builtin; refine wpList_ap rfl (.tmp 37) (.tmp 45) _ rfl 49 iR _ 4 64 Try.underlying44 hiR hzR0 hzR1 hzR2 rfl (by omega) w.heap.size rfl (HA.out.lay.own 1 _ rfl) rfl HX.out (fun j hj => by rcases (show j = 0 ∨ j = 1 ∨ j = 2 ∨ j = 3 by omega) with rfl | rfl | rfl | rfl <;> rfl) (repF bm2 f2) (fun j hj => rfl) (fun j hj => HREP.out j (by omega)) (i + 1) rfl (by unfold maxLen; omega) (by omega) HA.out.size ?_
             intro A5 c5 w5 ho hg ha
             have H5 := Lib.hid (HA.out.app 1 rfl ho hg ha)
             clear ho hg ha HA HX HREP
             have cst : w5.cell? ⟨g, 0, none⟩ = some (.slice AL i cl) := H5.out.lay.cellB 0 rfl 0 (by omega)
             have fz := H5.out.lay.frz 0 rfl (by omega) 0
             have HL6 : Hid (LayE g c5 n (i + 1) A5 bm2 [blkO w.heap.size zeroM] w f2 MeS0 (w5.setCell ⟨g, 0, none⟩ (.slice A5 (i + 1) c5))) := Lib.hid (H5.out.fld 0 0 (.slice A5 (i + 1) c5) rfl (by omega) (by simp))
             clear H5)
          | fail)
        go_roundw
        case rel => exact ⟨i + 1, c5, A5, bm2, f2, by omega, by go_num, HL6⟩
        case measure => simp [intOf]; omega
    · obtain rfl : i = n := by omega
      obtain ⟨ga, rfl, -, -, -, -⟩ := (HQ.out.lay.own 1 _ rfl).pos (show 0 < i by omega)
      generalize hbr : w.heap.size = br at HQ ⊢
      have HQ0 : Hid (LayE g cl i i (some ⟨ga, 0, none⟩) bm [lstM none 0 0 (meCode i M), blkO wr.heap.size zeroM, blkO br zeroM] w f (meSt i M 0) (wr.alloc (.cells #[.slice none 0 0, .slice none 0 0, .slice none 0 0] 28))) := Lib.hid ((((HQ.out.newB zeroM 28 3 rfl _ rfl).rot2).lnil 29 1 (fun k => .int .i64 (meCode i M k))).rot2)
      clear HQ
      go_wp2
      generalize wr.heap.size = bo at HQ0 ⊢
      go_loopw [52] (fun v wr => ∃ (j : Nat) (AC : Option Addr) (cC : Nat), j ≤ m ∧ v = .int .i64 j ∧ Hid (LayE g cl i i (some ⟨ga, 0, none⟩) bm [lstM AC j cC (meCode i M), blkO bo [.slice AC j cC, .slice none 0 0, .slice none 0 0], blkO br zeroM] w f (meSt i M j) wr)) (fun v _ => m - (intOf v).toNat)
      case atStart => exact ⟨0, none, 0, by omega, rfl, HQ0⟩
      case round =>
        clear HQ0
        obtain ⟨j, AC, cC, hj, rfl, HQ⟩ := hrel
        by_cases hlt : j < m
        · obtain ⟨ad, rfl, hbl, m0, m1, m2, m3⟩ := (HR.out.below (HQ.out.lay.bel.mono hB)).rec4 hlt
          clear hbl
          have HQ1 : Hid (LayE g cl i i (some ⟨ga, 0, none⟩) bm (mvB wr.heap.size (M.k j) (M.f j) (M.t j) (M.v j) :: [lstM AC j cC (meCode i M), blkO bo [.slice AC j cC, .slice none 0 0, .slice none 0 0], blkO br zeroM]) w f (meSt i M j) (wr.alloc (.cells #[.int .i64 (M.k j), .int .i64 (M.f j), .int .i64 (M.t j), .int .i64 (M.v j)] 37))) := Lib.hid ((HQ.out.newB [.int .i64 (M.k j), .int .i64 (M.f j), .int .i64 (M.t j), .int .i64 (M.v j)] 37 4 rfl _ rfl).rot2)
          go_wp2
          refine at_layQ (F := fun W' => Code.wp _ _ _ _ W') HQ1.out ?_
          intro W hW
          have HW := Lib.hid hW
          clear hW HQ1 HQ m0 m1 m2 m3
          generalize wr.heap.size = x at HW ⊢
          have HS0 : Hid (MvSM bo x (.slice AC j cC) (M.k j) (M.f j) (M.t j) (M.v j) W.drew) := Lib.hid (MvSM.of HW.out.drew.lay 4 2 rfl rfl)
          refine wp_held_mask (MvSM bo x (.slice AC j cC) (M.k j) (M.f j) (M.t j) (M.v j)) [true, true, true, true, false, false, false, false, false] ?A1 (by kernel_rfl) rfl (by kernel_rfl) (by repeat' (first | (with_reducible apply tame_then) | (with_reducible apply tame_block) | (with_reducible apply tame_scope) | exact tame_gives | exact tame_body (fun _ _ h => ⟨_, h.1⟩))) HS0.out ?head ?tail
          case head =>
            intro W5 ⟨s0, s1, s2, s3, s4⟩
            simp only [pick]
            go_wp2
            exact taken
          case tail =>
            simp only [pick, List.map_cons, List.map_nil, Bool.not_true, Bool.not_false]
            refine tail_step ?_
            go_wp2_with fail
            refine (do_any g cl i ga bm _ w f (meSt i M j) W.drew j (M.k j) (M.f j) (M.t j) (M.v j) hn1 hn (by omega) (meB_all i M j) HW.out.drew).mono ?_
            rintro e w3 ⟨rfl, h3⟩
            have H3 := Lib.hid h3
            clear h3 HW HS0
            rw [me_next] at H3
            have hcode : (meDo i (meSt i M j) (M.k j) (M.f j) (M.t j) (M.v j)).2 = meCode i M j := rfl
            rw [hcode]
            clear hcode
            have HS3 : Hid (MvSM bo x (.slice AC j cC) (M.k j) (M.f j) (M.t j) (M.v j) w3) := Lib.hid (MvSM.of H3.out.lay 4 2 rfl rfl)
            generalize hcd : meCode i M j = cd
            have HCD := Lib.hid hcd
            clear hcd
            go_wp2
            refine holds HS3.out ?_
            refine tail_step ?_
            have H4 := Lib.hid (H3.out.alloc (.cells #[.int .i64 cd] 29))
            have HS4 : Hid (MvSM bo x (.slice AC j cC) (M.k j) (M.f j) (M.t j) (M.v j) (w3.alloc (.cells #[.int .i64 cd] 29))) := Lib.hid (MvSM.of H4.out.lay 4 2 rfl rfl)
            clear H3 HS3
            go_wp2
            refine holds HS4.out ?_
            refine tail_step ?_
            refine wpList_ap1 rfl (.tmp 57) (.tmp 61) _ rfl 29 iE _ 8 Try.underlying24 hiE hzE0 hzE1 hzE2 rfl w.heap.size rfl (H4.out.lay.own 3 _ rfl) rfl (cell_new w3 #[.int .i64 cd] 29 (n := 1) (fun _ => .int .i64 cd) w3.heap.size rfl (one_at rfl)) (fun _ _ => rfl) (fun k => .int .i64 (meCode i M k)) (fun _ _ => rfl) (fun k hk => by rw [show j + k = j by omega, HCD.out]) (j + 1) rfl (by unfold maxLen; omega) (by omega) H4.out.size ?_
            intro A6 c6 w6 ho hg ha
            have H6 := Lib.hid (H4.out.app 3 rfl ho hg ha)
            clear ho hg ha H4 HS4
            have HS6 : Hid (MvSM bo x (.slice AC j cC) (M.k j) (M.f j) (M.t j) (M.v j) w6) := Lib.hid (MvSM.of H6.out.lay 4 2 rfl rfl)
            refine holds HS6.out ?_
            refine tail_step ?_
            go_wp2
            refine holds HS6.out ?_
            refine tail_last ?_
            have fz := H6.out.lay.frz 4 rfl (by omega) 0
            obtain ⟨s0, -⟩ := HS6.out
            have HL7 : Hid (LayE g cl i i (some ⟨ga, 0, none⟩) bm [lstM A6 (j + 1) c6 (meCode i M), blkO bo [.slice A6 (j + 1) c6, .slice none 0 0, .slice none 0 0], blkO br zeroM] w f (meSt i M (j + 1)) (w6.setCell ⟨bo, 0, none⟩ (.slice A6 (j + 1) c6))) := Lib.hid ((H6.out.fld 4 0 (.slice A6 (j + 1) c6) rfl (by omega) (by simp)).drop2)
            clear H6 HS6 HCD
            go_wp2
            go_roundw
            case rel => exact ⟨j + 1, A6, c6, by omega, by go_num, HL7⟩
            case measure => simp [intOf]; omega
        · obtain rfl : j = m := by omega
          clear hmm
          have HBD := Lib.hid ((meB_all i M j).more hm)
          generalize hS : meSt i M j = S at HQ
          have HSS := Lib.hid hS
          rw [hS] at HBD
          clear hS
          have HR0 : Hid (LayQ w wr (rowsR g cl i ga bm f S 0 none none 0 0 (fun _ => .slice none 0 0) [lstM AC j cC (meCode i M), blkO bo [.slice AC j cC, .slice none 0 0, .slice none 0 0], blkO br zeroM]) (mapsE i bm S) tyE f (qsP i S 0 [])) := Lib.hid (by
            have h1 := ((HQ.out.lnil 3 1 (fun a => .int .i64 (cntI S a i))).lnil 26 1 (fun _ => .slice none 0 0)).perm (L' := rowsR g cl i ga bm f S 0 none none 0 0 (fun _ => .slice none 0 0) [lstM AC j cC (meCode i M), blkO bo [.slice AC j cC, .slice none 0 0, .slice none 0 0], blkO br zeroM]) [2, 3, 0, 1, 4, 5, 6] (by decide) rfl
            exact h1.sameQ fun a => qsP_zero a)
          obtain ⟨c0, -⟩ := me_heads HQ.out
          clear HQ
          go_wp2
          clear c0
          go_loopw [70] (fun v wr => ∃ (p : Nat) (AI AN : Option Addr) (cI cN : Nat) (gI fF : Nat → Value), p ≤ i ∧ v = .int .i64 p ∧ Hid ((∀ a, a < 2 * i → fF a = f a) ∧ ∀ a, a < p → gI a = fF (2 * i + a)) ∧
            Hid (LayQ w wr (rowsR g cl i ga bm f S p AI AN cI cN gI [lstM AC j cC (meCode i M), blkO bo [.slice AC j cC, .slice AI p cI, .slice AN p cN], blkO br zeroM]) (mapsE i bm S) tyE fF (qsP i S p []))) (fun v _ => i - (intOf v).toNat)
          case atStart => exact ⟨0, none, none, 0, 0, _, f, by omega, rfl, Lib.hid ⟨fun _ _ => rfl, fun a h => absurd h (by omega)⟩, HR0⟩
          case round =>
            clear HR0
            obtain ⟨p, AI, AN, cI, cN, gI, fF, hp, rfl, HF, HQ⟩ := hrel
            by_cases hlt : p < i
            · have key : ∀ x, x < i * 4 → wr.cell? ⟨ga, x, none⟩ = some (repF bm f x) := fun x hx => HQ.out.lay.cell 1 rfl hx
              have c0 : wr.cell? ⟨ga, p * 4, none⟩ = some (.map (some (bm (2 * p)))) := by rw [key _ (by omega), repF, if_pos (by omega), show p * 4 / 4 = p by omega]
              have c1 : wr.cell? ⟨ga, p * 4 + 1, none⟩ = some (.map (some (bm (2 * p + 1)))) := by rw [key _ (by omega), repF, if_neg (by omega), if_pos (by omega), show (p * 4 + 1) / 4 = p by omega]
              have c2 : wr.cell? ⟨ga, p * 4 + 2, none⟩ = some (f (2 * p)) := by rw [key _ (by omega), repF, if_neg (by omega), if_neg (by omega), if_pos (by omega), show (p * 4 + 2) / 4 = p by omega]
              have c3 : wr.cell? ⟨ga, p * 4 + 3, none⟩ = some (f (2 * p + 1)) := by rw [key _ (by omega), repF, if_neg (by omega), if_neg (by omega), if_neg (by omega), show (p * 4 + 3) / 4 = p by omega]
              clear key
              have HC : Hid (LayQ w (wr.alloc (.cells #[.map (some (bm (2 * p))), .map (some (bm (2 * p + 1))), f (2 * p), f (2 * p + 1)] 49)) (blk wr.heap.size 49 4 (ofL [.map (some (bm (2 * p))), .map (some (bm (2 * p + 1))), f (2 * p), f (2 * p + 1)]) :: rowsR g cl i ga bm f S p AI AN cI cN gI [lstM AC j cC (meCode i M), blkO bo [.slice AC j cC, .slice AI p cI, .slice AN p cN], blkO br zeroM]) (mapsE i bm S) tyE (fput fF (2 * i + p) (.slice none 0 0)) (qsP i S p (inTo S p 0))) := Lib.hid
                (((LayQ.clear HQ.out (2 * i + p)).sameQ fun a => (qsP_cur (cur' := []) a).symm).newB [.map (some (bm (2 * p))), .map (some (bm (2 * p + 1))), f (2 * p), f (2 * p + 1)] 49 4 rfl _ rfl)
              have HF2 : Hid ((∀ a, a < 2 * i → fput fF (2 * i + p) (.slice none 0 0) a = f a) ∧ ∀ a, a < p → gI a = fput fF (2 * i + p) (.slice none 0 0) (2 * i + a)) := Lib.hid
                ⟨fun a ha => by rw [fput_ne (by omega)]; exact HF.out.1 a ha, fun a ha => by rw [fput_ne (by omega)]; exact HF.out.2 a ha⟩
              have HLV : Hid (fput fF (2 * i + p) (.slice none 0 0) (2 * i + p) = .slice none 0 0) := Lib.hid (fput_same _ _ _)
              clear HQ HF
              obtain ⟨bf1, of1, pf1, e1, -, -, -⟩ := q_ct HC.out (a := 2 * p) (qsP_ct (by omega)) hn1
              obtain ⟨bf2, of2, pf2, e2, -, -, -⟩ := q_ct HC.out (a := 2 * p + 1) (qsP_ct (by omega)) hn1
              rw [HF2.out.1 _ (by omega)] at e1 e2
              rw [e1] at c2
              rw [e2] at c3
              have E1 := Lib.hid e1
              have E2 := Lib.hid e2
              rw [e1, e2] at HC
              clear e1 e2
              go_wp2
              clear c0 c1 c2 c3
              generalize wr.heap.size = xr at HC ⊢
              go_loopw [12, 74] (fun lv kv wr => ∃ (x : Nat) (f4 : Nat → Value), x ≤ 9 ∧ kv = .int .i64 x ∧ lv = f4 (2 * i + p) ∧ Hid ((∀ a, a < 2 * i → f4 a = f a) ∧ ∀ a, a < p → gI a = f4 (2 * i + a)) ∧
                Hid (LayQ w wr (blk xr 49 4 (ofL [.map (some (bm (2 * p))), .map (some (bm (2 * p + 1))), .slice (some ⟨bf1, of1, none⟩) i pf1, .slice (some ⟨bf2, of2, none⟩) i pf2]) :: rowsR g cl i ga bm f S p AI AN cI cN gI [lstM AC j cC (meCode i M), blkO bo [.slice AC j cC, .slice AI p cI, .slice AN p cN], blkO br zeroM]) (mapsE i bm S) tyE f4 (qsP i S p (inTo S p x)))) (fun _ kv _ => 9 - (intOf kv).toNat)
              case atStart => exact ⟨0, _, by omega, rfl, HLV.out.symm, HF2, HC⟩
              case round =>
                clear HC HF2 HLV
                obtain ⟨x, f4, hx, rfl, rfl, HF, HQ⟩ := hrel
                obtain ⟨A4, cap4, hf4, hl4, hm4⟩ := HQ.out.len (2 * i + p)
                rw [qsP_at, show (vK (inTo S p x)).length = (inTo S p x).length from List.length_map ..] at hf4 hl4
                rw [hf4]
                have hle := inTo_len S p x
                have HF4 := Lib.hid hf4
                clear hf4
                by_cases hx9 : x < 9
                · obtain ⟨b, hb⟩ : ∃ b, hasB S p x = b := ⟨_, rfl⟩
                  have hiff := hasB_iff HBD.out (Nat.le_refl 60) p x
                  rw [hb] at hiff
                  have HIFF := Lib.hid hiff
                  have HB2 := Lib.hid hb
                  clear hiff hb
                  obtain ⟨k4, hk4⟩ : ∃ k, k = (inTo S p x).length := ⟨_, rfl⟩
                  have HK4 := Lib.hid hk4
                  rw [← hk4] at HF4 hl4 hle ⊢
                  clear hk4
                  go_wp2_with fail
                  have hcell : ∀ (W' : World) (r : LRow), LayQ w W' (r :: blk xr 49 4 (ofL [.map (some (bm (2 * p))), .map (some (bm (2 * p + 1))), .slice (some ⟨bf1, of1, none⟩) i pf1, .slice (some ⟨bf2, of2, none⟩) i pf2]) :: rowsR g cl i ga bm f S p AI AN cI cN gI [lstM AC j cC (meCode i M), blkO bo [.slice AC j cC, .slice AI p cI, .slice AN p cN], blkO br zeroM]) (mapsE i bm S) tyE f4 (qsP i S p (inTo S p x)) → W'.cell? ⟨xr, 0, none⟩ = some (.map (some (bm (2 * p)))) ∧ W'.cell? ⟨xr, 0 + 1, none⟩ = some (.map (some (bm (2 * p + 1)))) := fun W' r hW' => ⟨hW'.lay.cellB 1 rfl 0 (by omega), hW'.lay.cellB 1 rfl 1 (by omega)⟩
                  refine (has_any xr 0 (bm (2 * p)) (bm (2 * p + 1)) (2 * p) (2 * p + 1) x (S.st (2 * p)) (S.st (2 * p + 1)) wr (by omega) (fun t ht => ⟨(HBD.out.st _ t ht).1, Nat.le_trans (HBD.out.st _ t ht).2.2 HBD.out.tags⟩) (mapsE_at (by omega)) (mapsE_at (by omega)) hcell HQ.out).mono ?_
                  rintro e w4 ⟨v4, rfl, Al, capl, l, rfl, hl61, hmem, hL⟩
                  have HMEM : Hid (∀ t, t ∈ l ↔ leftT S p x t = true) := Lib.hid fun t => by
                    rw [hmem]
                    simp only [leftT, Bool.and_eq_true, decide_eq_true_iff, Bool.not_eq_true']
                  have HL := Lib.hid hL.tail1
                  clear hL hmem hcell HQ
                  cases b
                  · have hl0 : l = [] := by
                      rcases l with _ | ⟨y, l⟩
                      · rfl
                      · exact absurd (HIFF.out.2 ⟨y, (HMEM.out y).1 (by simp)⟩) (by simp)
                    subst hl0
                    have HL2 : Hid (LayQ w w4 (blk xr 49 4 (ofL [.map (some (bm (2 * p))), .map (some (bm (2 * p + 1))), .slice (some ⟨bf1, of1, none⟩) i pf1, .slice (some ⟨bf2, of2, none⟩) i pf2]) :: rowsR g cl i ga bm f S p AI AN cI cN gI [lstM AC j cC (meCode i M), blkO bo [.slice AC j cC, .slice AI p cI, .slice AN p cN], blkO br zeroM]) (mapsE i bm S) tyE f4 (qsP i S p (inTo S p (x + 1)))) := Lib.hid (by rw [inTo_no HB2.out]; exact HL.out)
                    clear HL
                    go_wp2
                    go_roundw
                    case rel => exact ⟨x + 1, f4, by omega, by go_num, HF4.out.symm, HF, HL2⟩
                    case measure => simp [intOf]; omega
                  · obtain ⟨x0, hx0⟩ := HIFF.out.1 rfl
                    have hlp : 0 < l.length := List.length_pos_of_mem ((HMEM.out x0).2 hx0)
                    clear hx0
                    generalize l.length = kl at hlp hl61 ⊢
                    have HA := Lib.hid (HL.out.alloc (.cells #[.int .i64 (x : Nat)] 3))
                    have HO : Hid (QSl (w4.alloc (.cells #[.int .i64 (x : Nat)] 3)) w.heap.size 3 (.slice A4 k4 cap4) (vK (inTo S p x))) := Lib.hid (by
                      have := HA.out.own (2 * i + p)
                      rw [HF4.out, qsP_at] at this
                      exact this)
                    have HCE : Hid ((w4.alloc (.cells #[.int .i64 (x : Nat)] 3)).cell? ⟨w4.heap.size, 0, none⟩ = some (.int .i64 (x : Nat))) := Lib.hid (by rw [World.cell?_alloc_new]; rfl)
                    have hvl : (vK (inTo S p x)).length = k4 := by rw [HK4.out]; exact List.length_map ..
                    have HVL := Lib.hid hvl
                    clear hvl HL
                    go_wp2_with (first
                      | (at_builtin; refine wpList_apQ rfl (.tmp 81) (.tmp 83) _ rfl 3 iI _ 8 Try.underlying26 hiI hzI0 hzI1 hzI2 rfl w.heap.size rfl HO.out rfl HCE.out rfl (k4 + 1) (by rw [HVL.out]) (by rw [HVL.out]; unfold maxLen; omega) (by rw [HVL.out]; omega) HA.out.size ?_
                         intro A5 c5 w5 hq5 hg5 hb5
                         have H5 := Lib.hid (HA.out.push (2 * i + p) hq5 (by rw [HF4.out, own_ab]; exact hg5) (by rw [HF4.out, own_ab, own_ab]; exact hb5))
                         clear hq5 hg5 hb5 HO HA HCE)
                      | fail)
                    have H6 : Hid (LayQ w w5 (blk xr 49 4 (ofL [.map (some (bm (2 * p))), .map (some (bm (2 * p + 1))), .slice (some ⟨bf1, of1, none⟩) i pf1, .slice (some ⟨bf2, of2, none⟩) i pf2]) :: rowsR g cl i ga bm f S p AI AN cI cN gI [lstM AC j cC (meCode i M), blkO bo [.slice AC j cC, .slice AI p cI, .slice AN p cN], blkO br zeroM]) (mapsE i bm S) tyE (fput f4 (2 * i + p) (.slice A5 (k4 + 1) c5)) (qsP i S p (inTo S p (x + 1)))) := Lib.hid (H5.out.sameQ fun a => by
                      rw [inTo_yes HB2.out, show vK (inTo S p x) ++ [Value.int .i64 (x : Nat)] = vK (inTo S p x ++ [x]) by simp [vK]]
                      exact (qsP_cur a).symm)
                    have HF6 : Hid ((∀ a, a < 2 * i → fput f4 (2 * i + p) (.slice A5 (k4 + 1) c5) a = f a) ∧ ∀ a, a < p → gI a = fput f4 (2 * i + p) (.slice A5 (k4 + 1) c5) (2 * i + a)) := Lib.hid
                      ⟨fun a ha => by rw [fput_ne (by omega)]; exact HF.out.1 a ha, fun a ha => by rw [fput_ne (by omega)]; exact HF.out.2 a ha⟩
                    clear H5
                    go_roundw
                    case rel => exact ⟨x + 1, _, by omega, by go_num, (fput_same _ _ _).symm, HF6, H6⟩
                    case measure => simp [intOf]; omega
                · have hx9e : x = 9 := by omega
                  obtain ⟨k4, hk4⟩ : ∃ k, k = (inTo S p x).length := ⟨_, rfl⟩
                  rw [← hk4] at HF4 hl4 hle ⊢
                  rw [hx9e] at hk4 HQ
                  have HK4 := Lib.hid hk4
                  clear hk4 hx9e
                  have HCNT : Hid (∀ k, k ≤ i → -360 ≤ cntI S p k ∧ cntI S p k ≤ 360) := Lib.hid fun k hk => by
                    have := cntI_abs HBD.out p k
                    have h60 : 60 * k ≤ 360 := by omega
                    omega
                  go_wp2
                  go_loopw [14, 87] (fun yv kv wr => ∃ k : Nat, k ≤ i ∧ kv = .int .i64 k ∧ yv = .int .i64 (cntI S p k) ∧ Hid (LayQ w wr (blk xr 49 4 (ofL [.map (some (bm (2 * p))), .map (some (bm (2 * p + 1))), .slice (some ⟨bf1, of1, none⟩) i pf1, .slice (some ⟨bf2, of2, none⟩) i pf2]) :: rowsR g cl i ga bm f S p AI AN cI cN gI [lstM AC j cC (meCode i M), blkO bo [.slice AC j cC, .slice AI p cI, .slice AN p cN], blkO br zeroM]) (mapsE i bm S) tyE f4 (qsP i S p (inTo S p 9)))) (fun _ kv _ => i - (intOf kv).toNat)
                  case atStart => exact ⟨0, by omega, rfl, rfl, HQ⟩
                  case round =>
                    clear HQ
                    obtain ⟨k, hk, rfl, rfl, HQ⟩ := hrel
                    obtain ⟨hn1', hn2'⟩ := HCNT.out k hk
                    by_cases hki : k < i
                    · obtain ⟨z1, o1, q1, y1, -, -, v1⟩ := q_ct HQ.out (a := 2 * p) (qsP_ct (by omega)) hn1
                      obtain ⟨z2, o2, q2, y2, -, -, v2⟩ := q_ct HQ.out (a := 2 * p + 1) (qsP_ct (by omega)) hn1
                      rw [HF.out.1 _ (by omega), E1.out] at y1
                      rw [HF.out.1 _ (by omega), E2.out] at y2
                      injection y1 with y1 _ y1'
                      injection y1 with y1
                      injection y1 with ya yb
                      injection y2 with y2 _ y2'
                      injection y2 with y2
                      injection y2 with yc yd
                      subst ya; subst yb; subst y1'; subst yc; subst yd; subst y2'
                      have r2 : wr.cell? ⟨xr, 2, none⟩ = some (.slice (some ⟨bf1, of1, none⟩) i pf1) := HQ.out.lay.cellB 0 rfl 2 (by omega)
                      have r3 : wr.cell? ⟨xr, 3, none⟩ = some (.slice (some ⟨bf2, of2, none⟩) i pf2) := HQ.out.lay.cellB 0 rfl 3 (by omega)
                      have x1 := v1 k hki
                      have x2 := v2 k hki
                      have b1 := HBD.out.ct (2 * p) k
                      have b2 := HBD.out.ct (2 * p + 1) k
                      have HNX : Hid (cntI S p (k + 1) = cntI S p k + (((S.ct (2 * p) k : Nat) : Int) - ((S.ct (2 * p + 1) k : Nat) : Int))) := Lib.hid rfl
                      clear v1 v2
                      generalize cntI S p k = y at hn1' hn2' HNX ⊢
                      generalize S.ct (2 * p) k = a1 at x1 b1 HNX
                      generalize S.ct (2 * p + 1) k = a2 at x2 b2 HNX
                      go_wp2
                      refine wp_text_all (by kernel_rfl) (by kernel_rfl) (by kernel_rfl) (by repeat' (first | (with_reducible apply tame_then) | (with_reducible apply tame_block) | (with_reducible apply tame_scope) | exact tame_gives | exact tame_body (fun _ _ h => ⟨_, h.1⟩))) ?_
                      go_wp2
                      refine headed ?_
                      go_wp2
                      go_roundw
                      case rel => exact ⟨k + 1, by omega, by go_num, by rw [HNX.out], Lib.hid HQ.out.drew⟩
                      case measure => simp [intOf]; omega
                    · obtain rfl : k = i := by omega
                      obtain ⟨gI2, hg2⟩ : ∃ gI2 : Nat → Value, gI2 = upd gI p (.slice A4 k4 k4) := ⟨_, rfl⟩
                      have HGP : Hid (gI2 p = .slice A4 k4 k4) := Lib.hid (by rw [hg2, upd_same])
                      have HGO : Hid (∀ a, a < p → gI2 a = gI a) := Lib.hid (fun a ha => by rw [hg2, upd_ne _ _ (by omega)])
                      clear hg2
                      have HQ2 : Hid (LayQ w wr (blk xr 49 4 (ofL [.map (some (bm (2 * p))), .map (some (bm (2 * p + 1))), .slice (some ⟨bf1, of1, none⟩) k pf1, .slice (some ⟨bf2, of2, none⟩) k pf2]) :: rowsR g cl k ga bm f S p AI AN cI cN gI2 [lstM AC j cC (meCode k M), blkO bo [.slice AC j cC, .slice AI p cI, .slice AN p cN], blkO br zeroM]) (mapsE k bm S) tyE (fput f4 (2 * k + p) (.slice A4 k4 k4)) (qsP k S (p + 1) [])) := Lib.hid (by
                        have h1 := HQ.out.own (2 * k + p)
                        rw [HF4.out, qsP_at] at h1
                        have h2 := (LayQ.pop HQ.out (2 * k + p) (h1.clip (by rw [HK4.out]; exact (List.length_map ..).symm)) (by rw [HF4.out, own_ab, own_ab])).congr 3 gI2 rfl (fun a ha => (HGO.out a (by simpa using ha)).symm)
                        exact h2.sameQ fun a => by rw [qsP_next]; exact (qsP_cur a).symm)
                      have HF5 : Hid ((∀ a, a < 2 * k → fput f4 (2 * k + p) (.slice A4 k4 k4) a = f a) ∧ ∀ a, a < p + 1 → gI2 a = fput f4 (2 * k + p) (.slice A4 k4 k4) (2 * k + a)) := Lib.hid
                        ⟨fun a ha => by rw [fput_ne (by omega)]; exact HF.out.1 a ha, fun a ha => by
                          by_cases e : a = p
                          · subst e; rw [HGP.out, fput_same]
                          · rw [fput_ne (by omega), HGO.out a (by omega)]; exact HF.out.2 a (by omega)⟩
                      clear HQ HF HF4
                      generalize fput f4 (2 * k + p) (.slice A4 k4 k4) = f5 at HQ2 HF5
                      go_wp2
                      have HW := HQ2
                      clear HQ2
                      refine wp_layK HW.out.lay [0, 1, 2, 3, 4, 5, 6, 7, 8, 9, 10, 11] [104, 105, 106, 107, 108, 109, 110, 111, 112, 113, 114, 115] [12, 13, 14] 12 [lane 5 1 4 25 26 24 (AI) (p) (cI) (gI2), lane 10 7 9 26 3 8 (AN) (p) (cN) (fun a => .int .i64 (cntI S a k))] (fun j => if j = 5 then 3 else 4)
                        [.v (.pointer (some ⟨bo, 1, none⟩)), .v (.slice AI p cI), .v (.slice A4 k4 cap4), .v (gI2 p), .box 26 (gI2 p), .v undef, .v (.pointer (some ⟨bo, 2, none⟩)), .v (.slice AN p cN), .v (.int .i64 (cntI S p k)), .box 3 (.int .i64 (cntI S p k)), .v undef, .v (.pointer (some ⟨bo, 1, none⟩))]
                        ((fun W1 => W1.cell? ⟨bo, 1, none⟩ = some (.slice AI p cI) ∧ W1.cell? ⟨bo, 2, none⟩ = some (.slice AN p cN))) (by kernel_rfl) (by kernel_rfl) rfl (by decide) rfl (by kernel_rfl) ⟨?rowat, ?injk⟩ ?inj ?val ?ok ?hS ?ext ?fin
                      case rowat => intro r hr; simp only [List.mem_cons, List.not_mem_nil, or_false] at hr; rcases hr with rfl | rfl <;> rfl
                      case injk => intro r hr q hq h; simp only [List.mem_cons, List.not_mem_nil, or_false] at hr hq; rcases hr with rfl | rfl <;> rcases hq with rfl | rfl <;> first | rfl | (exact absurd h (by simp))
                      case inj => intro r hr; simp only [List.mem_cons, List.not_mem_nil, or_false] at hr; rcases hr with rfl | rfl <;> rfl
                      case val => intro r hr; simp only [List.mem_cons, List.not_mem_nil, or_false] at hr; rcases hr with rfl | rfl <;> rfl
                      case ok =>
                        intro r hr
                        simp only [List.mem_cons, List.not_mem_nil, or_false] at hr
                        rcases hr with rfl | rfl
                        · exact ⟨(show (5 : Nat) ∈ ([0, 1, 2, 3, 4, 5, 6, 7, 8, 9, 10, 11] : List Nat) by decide), rfl, by intro o ho; cases ho; rfl, rfl, rfl, Try.underlying25, ⟨iS, _, hiS, hzS0, hzS1, hzS2, rfl⟩, by show p + 1 ≤ maxLen; unfold maxLen; omega, by show (p + 1) * 24 ≤ _; omega, fun v w h => h, fun v w h => h⟩
                        · exact ⟨(show (10 : Nat) ∈ ([0, 1, 2, 3, 4, 5, 6, 7, 8, 9, 10, 11] : List Nat) by decide), rfl, by intro o ho; cases ho; rfl, rfl, rfl, Try.underlying26, ⟨iI, _, hiI, hzI0, hzI1, hzI2, rfl⟩, by show p + 1 ≤ maxLen; unfold maxLen; omega, by show (p + 1) * 8 ≤ _; omega, fun v w h => h, fun v w h => h⟩
                      case hS =>
                        intro hk w1 hkp
                        have hb := fun o (ho : o < 3) => lay_cell HW.out.lay hk hkp 6 rfl (fun r hr => by simp only [List.mem_cons, List.not_mem_nil, or_false] at hr; rcases hr with rfl | rfl <;> simp) o ho
                        exact ⟨hb 1 (by omega), hb 2 (by omega)⟩
                      case ext =>
                        intro i0 hi0 hn o ho a w1 hs hs1 hold hf
                        obtain ⟨s1, s2⟩ := hs1
                        simp only [List.mem_cons, List.not_mem_nil, or_false] at hi0
                        rcases hi0 with rfl | rfl | rfl | rfl | rfl | rfl | rfl | rfl | rfl | rfl | rfl | rfl
                        all_goals cases ho
                        · have h1 : a.tmps[7]?.getD undef = .pointer (some ⟨bo, 0, none⟩) := hold 7 (by decide)
                          exact does_v (.pointer (some ⟨bo, 1, none⟩)) rfl (by go_simp)
                        · have h1 : a.tmps[104]?.getD undef = .pointer (some ⟨bo, 1, none⟩) := hf 0 104 rfl rfl rfl
                          exact does_v (.slice AI p cI) rfl (by go_simp)
                        · have h1 : a.tmps[12]?.getD undef = .slice A4 k4 cap4 := hold 12 (by decide)
                          exact does_v (.slice A4 k4 cap4) rfl (by go_simp)
                        · have h1 : a.tmps[106]?.getD undef = .slice A4 k4 cap4 := hf 2 106 rfl rfl rfl
                          exact does_f (gI2 p) rfl (by go_simp) ((clip_any A4 k4 cap4 w1 hl4 hm4).mono fun e w' h => ⟨by rw [h.1, HGP.out], h.2 ▸ Below.refl _ _⟩)
                        · have h1 : a.tmps[107]?.getD undef = gI2 p := hf 3 107 rfl rfl rfl
                          exact does_box 26 (gI2 p) rfl (by rw [HGP.out]; rfl) hs (by rw [HGP.out] at h1 ⊢; go_simp)
                        · cases hn
                        · have h1 : a.tmps[7]?.getD undef = .pointer (some ⟨bo, 0, none⟩) := hold 7 (by decide)
                          exact does_v (.pointer (some ⟨bo, 2, none⟩)) rfl (by go_simp)
                        · have h1 : a.tmps[110]?.getD undef = .pointer (some ⟨bo, 2, none⟩) := hf 6 110 rfl rfl rfl
                          exact does_v (.slice AN p cN) rfl (by go_simp)
                        · have h1 : a.tmps[14]?.getD undef = .int .i64 (cntI S p k) := hold 14 (by decide)
                          exact does_v (.int .i64 (cntI S p k)) rfl (by go_simp)
                        · have h1 : a.tmps[112]?.getD undef = .int .i64 (cntI S p k) := hf 8 112 rfl rfl rfl
                          exact does_box 3 (.int .i64 (cntI S p k)) rfl rfl hs (by go_simp)
                        · cases hn
                        · have h1 : a.tmps[7]?.getD undef = .pointer (some ⟨bo, 0, none⟩) := hold 7 (by decide)
                          exact does_v (.pointer (some ⟨bo, 1, none⟩)) rfl (by go_simp)
                      case fin =>
                        intro y ρ w5 hy hs5 hρ hkp hbl hL
                        have y0 : y 0 = .pointer (some ⟨bo, 1, none⟩) := hy 0 (by decide) rfl
                        have y1 : y 1 = .slice AI p cI := hy 1 (by decide) rfl
                        have y2 : y 2 = .slice A4 k4 cap4 := hy 2 (by decide) rfl
                        have y3 : y 3 = gI2 p := hy 3 (by decide) rfl
                        have y6 : y 6 = .pointer (some ⟨bo, 2, none⟩) := hy 6 (by decide) rfl
                        have y7 : y 7 = .slice AN p cN := hy 7 (by decide) rfl
                        have y8 : y 8 = .int .i64 (cntI S p k) := hy 8 (by decide) rfl
                        have y11 : y 11 = .pointer (some ⟨bo, 1, none⟩) := hy 11 (by decide) rfl
                        obtain ⟨B0, b0, y5, r0⟩ := hρ _ (List.mem_cons_self ..)
                        obtain ⟨B1, b1, y10, r1⟩ := hρ _ (List.mem_cons_of_mem _ (List.mem_cons_self ..))
                        simp only [List.drop_succ_cons, List.drop_zero, List.zip_cons_cons, List.zip_nil_right, List.foldl_cons, List.foldl_nil, y0, y1, y2, y3, y6, y7, y8, y11, y5, y10]
                        simp only [Act.put, List.setIfInBounds_toArray, List.set_cons_zero, List.set_cons_succ]
                        have r0 : ρ 5 = _ := r0
                        have r1 : ρ 10 = _ := r1
                        clear hy hρ y0 y1 y2 y3 y6 y7 y8 y11 y5 y10
                        have hla : LaysAt (blk xr 49 4 (ofL [.map (some (bm (2 * p))), .map (some (bm (2 * p + 1))), .slice (some ⟨bf1, of1, none⟩) k pf1, .slice (some ⟨bf2, of2, none⟩) k pf2]) :: rowsR g cl k ga bm f S p AI AN cI cN gI2 [lstM AC j cC (meCode k M), blkO bo [.slice AC j cC, .slice AI p cI, .slice AN p cN], blkO br zeroM]) (fun j => if j = 5 then 3 else 4) [lane 5 1 4 25 26 24 AI p cI gI2, lane 10 7 9 26 3 8 AN p cN (fun a => .int .i64 (cntI S a k))] :=
                          ⟨fun r hr => by simp only [List.mem_cons, List.not_mem_nil, or_false] at hr; rcases hr with rfl | rfl <;> rfl, fun r hr q hq h => by simp only [List.mem_cons, List.not_mem_nil, or_false] at hr hq; rcases hr with rfl | rfl <;> rcases hq with rfl | rfl <;> first | rfl | (exact absurd h (by simp [lane]))⟩
                        have h5 := LayQ.lanes HW.out hla hkp hbl hL
                        have hrows : setRows [lane 5 1 4 25 26 24 AI p cI gI2, lane 10 7 9 26 3 8 AN p cN (fun a => .int .i64 (cntI S a k))] (fun j => if j = 5 then 3 else 4) ρ (blk xr 49 4 (ofL [.map (some (bm (2 * p))), .map (some (bm (2 * p + 1))), .slice (some ⟨bf1, of1, none⟩) k pf1, .slice (some ⟨bf2, of2, none⟩) k pf2]) :: rowsR g cl k ga bm f S p AI AN cI cN gI2 [lstM AC j cC (meCode k M), blkO bo [.slice AC j cC, .slice AI p cI, .slice AN p cN], blkO br zeroM]) = (blk xr 49 4 (ofL [.map (some (bm (2 * p))), .map (some (bm (2 * p + 1))), .slice (some ⟨bf1, of1, none⟩) k pf1, .slice (some ⟨bf2, of2, none⟩) k pf2]) :: rowsR g cl k ga bm f S (p + 1) B0 B1 b0 b1 gI2 [lstM AC j cC (meCode k M), blkO bo [.slice AC j cC, .slice AI p cI, .slice AN p cN], blkO br zeroM]) := by
                          show ((blk xr 49 4 (ofL [.map (some (bm (2 * p))), .map (some (bm (2 * p + 1))), .slice (some ⟨bf1, of1, none⟩) k pf1, .slice (some ⟨bf2, of2, none⟩) k pf2]) :: rowsR g cl k ga bm f S p AI AN cI cN gI2 [lstM AC j cC (meCode k M), blkO bo [.slice AC j cC, .slice AI p cI, .slice AN p cN], blkO br zeroM]).set 3 (ρ 5)).set 4 (ρ 10) = (blk xr 49 4 (ofL [.map (some (bm (2 * p))), .map (some (bm (2 * p + 1))), .slice (some ⟨bf1, of1, none⟩) k pf1, .slice (some ⟨bf2, of2, none⟩) k pf2]) :: rowsR g cl k ga bm f S (p + 1) B0 B1 b0 b1 gI2 [lstM AC j cC (meCode k M), blkO bo [.slice AC j cC, .slice AI p cI, .slice AN p cN], blkO br zeroM])
                          rw [r0, r1]; rfl
                        rw [hrows] at h5
                        have H5 := Lib.hid h5
                        obtain ⟨s1, s2⟩ := hs5
                        have z1 := H5.out.lay.frz 6 rfl (by omega) 1
                        have z2 := H5.out.lay.frz 6 rfl (by omega) 2
                        have HL7 : Hid (LayQ w ((w5.setCell ⟨bo, 1, none⟩ (.slice B0 (p + 1) b0)).setCell ⟨bo, 2, none⟩ (.slice B1 (p + 1) b1)) (rowsR g cl k ga bm f S (p + 1) B0 B1 b0 b1 gI2 [lstM AC j cC (meCode k M), blkO bo [.slice AC j cC, .slice B0 (p + 1) b0, .slice B1 (p + 1) b1], blkO br zeroM]) (mapsE k bm S) tyE f5 (qsP k S (p + 1) [])) := Lib.hid
                          (((H5.out.fld 6 1 (.slice B0 (p + 1) b0) rfl (by omega) (by simp)).fld 6 2 (.slice B1 (p + 1) b1) rfl (by omega) (by simp)).tail1)
                        clear hla h5 hrows r0 r1 hL hkp hbl H5 HW
                        go_wp2
                        go_roundw
                        case rel => exact ⟨p + 1, B0, B1, b0, b1, gI2, f5, by omega, by go_num, HF5, HL7⟩
                        case measure => simp [intOf]; omega
            · obtain rfl : p = i := by omega
              have q0 : wr.cell? ⟨bo, 0, none⟩ = some (.slice AC j cC) := HQ.out.lay.cellB 5 rfl 0 (by omega)
              have q1 : wr.cell? ⟨bo, 1, none⟩ = some (.slice AI p cI) := HQ.out.lay.cellB 5 rfl 1 (by omega)
              have q2 : wr.cell? ⟨bo, 2, none⟩ = some (.slice AN p cN) := HQ.out.lay.cellB 5 rfl 2 (by omega)
              have z0 := HQ.out.lay.frz 6 rfl (by omega) 0
              have z1 := HQ.out.lay.frz 6 rfl (by omega) 1
              have z2 := HQ.out.lay.frz 6 rfl (by omega) 2
              have y0 := HQ.out.lay.cellB 6 rfl 0 (by omega)
              have y1 := HQ.out.lay.cellB 6 rfl 1 (by omega)
              have y2 := HQ.out.lay.cellB 6 rfl 2 (by omega)
              simp only [ofL_0, ofL_1, ofL_2] at y0 y1 y2
              have HE : Hid (LayQ w (((wr.setCell ⟨br, 0, none⟩ (.slice AC j cC)).setCell ⟨br, 1, none⟩ (.slice AI p cI)).setCell ⟨br, 2, none⟩ (.slice AN p cN)) (rowsR g cl p ga bm f S p AI AN cI cN gI [lstM AC j cC (meCode p M), blkO bo [.slice AC j cC, .slice AI p cI, .slice AN p cN], blkO br [.slice AC j cC, .slice AI p cI, .slice AN p cN]]) (mapsE p bm S) tyE fF (qsP p S p [])) := Lib.hid
                (((HQ.out.fld 6 0 (.slice AC j cC) rfl (by omega) (by simp)).fld 6 1 (.slice AI p cI) rfl (by omega) (by simp)).fld 6 2 (.slice AN p cN) rfl (by omega) (by simp))
              clear HQ
              go_wp2
              clear q0 q1 q2 y0 y1 y2 z0 z1 z2
              refine at_layQ (F := fun W' => bodyPost _ _ _ _ _ W') HE.out ?_
              intro W8 hW8
              have r0 : W8.cell? ⟨br, 0, none⟩ = some (.slice AC j cC) := hW8.lay.cellB 6 rfl 0 (by omega)
              have r1 : W8.cell? ⟨br, 1, none⟩ = some (.slice AI p cI) := hW8.lay.cellB 6 rfl 1 (by omega)
              have r2 : W8.cell? ⟨br, 2, none⟩ = some (.slice AN p cN) := hW8.lay.cellB 6 rfl 2 (by omega)
              refine bodyPost_ret (v := .tuple #[.agg #[.slice AC j cC, .slice AI p cI, .slice AN p cN], .int .i64 0]) (by simp [results, Try.results8, go_sem, r0, r1, r2]) rfl ⟨_, rfl, hW8.lay.bel, AC, AI, AN, cC, cI, cN, gI, rfl, hW8.lay.rd1 4 rfl, hW8.lay.rd1 2 rfl, ?_, fun a ha => ?_⟩
              · rw [HSS.out]; exact hW8.lay.rd1 3 rfl
              · rw [HSS.out, HF.out.2 a ha]
                have ho := hW8.own (2 * p + a)
                have hq : qsP p S p [] (2 * p + a) = vK (inL S a) := by
                  unfold qsP
                  rw [if_neg (by omega), if_pos (by omega), show 2 * p + a - 2 * p = a by omega]
                rw [hq] at ho
                obtain ⟨A9, c9, e9, -, -⟩ := ho.len
                rw [show (vK (inL S a)).length = (inL S a).length from List.length_map ..] at e9
                rw [e9] at ho ⊢
                exact ⟨A9, c9, rfl, qsl_rd ho⟩
set_option maxHeartbeats 400000 in
theorem play_bad (n : Int) (m cap : Nat) (A : Option Addr) (w : World) (hm : m ≤ maxLen) (h : n < 1 ∨ 6 < n ∨ 60 < m) :
    Calls Try.prog 8 #[.int .i64 n, .slice A m cap] w fun e w' => e = .returned (.tuple #[.agg #[.slice none 0 0, .slice none 0 0, .slice none 0 0], .int .i64 1]) ∧ Below w.heap.size w w' := by
  unfold maxLen at hm
  go_enter Try.func8, Try.ntmps8
  go_wp2
  all_goals first
    | (exfalso; omega)
    | (refine bodyPost_ret (v := .tuple #[.agg #[.slice none 0 0, .slice none 0 0, .slice none 0 0], .int .i64 1]) (by simp [results, Try.results8, go_sem]) rfl ⟨rfl, (Below.refl _ _).alloc (Nat.le_refl _) _⟩)
end Go.Proofs.Ytdgegbdkimdpjaa
