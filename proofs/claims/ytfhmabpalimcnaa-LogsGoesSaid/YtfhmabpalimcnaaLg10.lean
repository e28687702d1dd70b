/- The walk of logs.Play. -/
import Derived.Test.YtfhmabpalimcnaaLg9
set_option linter.unusedVariables false
set_option linter.unusedSimpArgs false
namespace Go.Proofs.Ytfhmabpalimcnaa
open Go.RowKit

theorem infoErrnoG : (Try.prog.info? 28).map (fun i => (i.zero, i.size, i.bytes)) = some (some (.int .i64 0), 1, 8) := by kernel_rfl
theorem infoRowG : (Try.prog.info? 33).map (fun i => (i.zero, i.size, i.bytes)) = some (some (.slice none 0 0), 1, 24) := by kernel_rfl
abbrev blkG (b : Nat) (l : List Value) : LRow := blk b 27 5 (ofL l)
abbrev nilsG : List Value := [.slice none 0 0, .slice none 0 0, .slice none 0 0, .slice none 0 0, .slice none 0 0]
abbrev lstC (A : Option Addr) (m cap : Nat) (fc : Nat → Int) : LRow := lst A 28 m cap (fun i => .int .i64 (fc i))
abbrev lstI (A : Option Addr) (m cap : Nat) (F : Nat → Value) : LRow := lst A 3 m cap F
abbrev lstG (A : Option Addr) (m cap : Nat) (F : Nat → Value) : LRow := lst A 33 m cap F
/-- What the loads of 'out.Codes = append(out.Codes, g.do(m))' read. -/
def MvS (b q : Nat) (C : Value) (k f t v : Int) (w : World) : Prop :=
  w.cell? ⟨b, 0, none⟩ = some C ∧ w.cell? ⟨q, 0, none⟩ = some (.int .i64 k) ∧ w.cell? ⟨q, 1, none⟩ = some (.int .i64 f) ∧ w.cell? ⟨q, 2, none⟩ = some (.int .i64 t) ∧ w.cell? ⟨q, 3, none⟩ = some (.int .i64 v)
theorem MvS.of {w0 w : World} {L : List LRow} {b q : Nat} {ty : TypeId} {sz : Nat} {l : List Value} {C : Value} {k f t v : Int} (h : Lay w0 w L) (i j : Nat) (hi : L[i]? = some (blk b ty sz (ofL (C :: l)))) (hs : 0 < sz) (hj : L[j]? = some (mvR q k f t v)) : MvS b q C k f t v w :=
  ⟨h.cellB i hi 0 hs, h.cellB j hj 0 (by omega), h.cellB j hj 1 (by omega), h.cellB j hj 2 (by omega), h.cellB j hj 3 (by omega)⟩
abbrev outX (be br m q : Nat) (AC AT AR AG AS : Option Addr) (cC cT cR cG cS : Nat) (n : Nat) (M : Mv) (S : LS) (gG : Nat → Value) : List LRow :=
  [lstI AT q cT (fun i => .int .i64 (S.e.T i : Nat)), lstI AR q cR (fun i => .int .i64 (S.e.R i)), lstG AG q cG gG, lstI AS q cS (fun i => .int .i64 (S.su i : Nat)), lstC AC m cC (lgC n M), blkG be [.slice AC m cC, .slice AT q cT, .slice AR q cR, .slice AG q cG, .slice AS q cS], blkG br nilsG]
abbrev bxO (b : Nat) (aa : LA) (S : LS) (q : Nat) : LRow := blk b 50 4 (ofL [.slice (aa.A q) (S.lg q).length (aa.c q), .int .i64 (S.su q : Nat), .slice (aa.hA q) (aa.hn q) (aa.hc q), .slice (aa.nA q) (aa.nn q) (aa.nc q)])
/-- Play's answer. -/
def LRes (n m : Nat) (M : Mv) (v : Value) (w : World) : Prop :=
  ∃ (AC AT AR AG AS : Option Addr) (cC cT cR cG cS : Nat) (gG : Nat → Value), v = .tuple #[.agg #[.slice AC m cC, .slice AT n cT, .slice AR n cR, .slice AG n cG, .slice AS n cS], .int .i64 0] ∧
    Rd w w.heap.size AC m (fun j => .int .i64 (lgC n M j)) ∧ Rd w w.heap.size AT n (fun i => .int .i64 ((lgE n M m).e.T i : Nat)) ∧ Rd w w.heap.size AR n (fun i => .int .i64 ((lgE n M m).e.R i)) ∧ Rd w w.heap.size AG n gG ∧ Rd w w.heap.size AS n (fun i => .int .i64 ((lgE n M m).su i : Nat)) ∧
    ∀ i, i < n → ∃ A cap, gG i = .slice A ((lgE n M m).lg i).length cap ∧ ((lgE n M m).lg i).length ≤ cap ∧ cap ≤ maxLen ∧ Rd w w.heap.size A (((lgE n M m).lg i).length * 2) (entF ((lgE n M m).lg i))
theorem made_at (z : Value) (k j : Nat) (hj : j < k) : (madeCells z.cells k)[j]? = some (z.cells[j % z.cells.size]!) := by simp [madeCells, hj]
set_option maxRecDepth 100000 in
set_option maxHeartbeats 2000000 in
theorem lg_good (n m cap B : Nat) (A : Option Addr) (M : Mv) (w : World) (hn1 : 1 ≤ n) (hn : n ≤ 6) (hm : m ≤ 60) (hB : B ≤ w.heap.size) (hr : Rd w B A (m * 4) (mvF M)) :
    Calls Try.prog 8 #[.int .i64 n, .slice A m cap] w (Gives fun v w' => LRes n m M v w' ∧ Below w.heap.size w w') := by
  have HR := Lib.hid hr; clear hr
  have hneI : (35 : TypeId) ≠ 3 := by decide
  have hneG : (35 : TypeId) ≠ 33 := by decide
  have hneL : (35 : TypeId) ≠ 27 := by decide
  obtain ⟨iE, hiE, hzE0, hzE1, hzE2⟩ := info_parts infoErrnoG
  obtain ⟨iI, hiI, hzI0, hzI1, hzI2⟩ := info_parts infoIntLg
  obtain ⟨iG, hiG, hzG0, hzG1, hzG2⟩ := info_parts infoRowG
  obtain ⟨iO, hiO, hzO0, hzO1, hzO2⟩ := info_parts infoOneLg
  go_enter Try.func8, Try.ntmps8
  go_wp2
  have HL0 := Lib.hid ((Lay.nil w).newB nilsG 27 5 rfl _ rfl)
  refine at_lay (F := fun W' => Code.wp _ _ _ _ W') HL0.out ?_
  intro W hW
  have HW := Lib.hid hW
  clear hW HL0
  generalize w.heap.size = br at HW ⊢
  refine wp_newF [0, 1, 2, 3] [24, 25, 26, 27] [4, 5, 6] 4 newGB (newG n W.heap.size) (by kernel_rfl) (by kernel_rfl) (by kernel_rfl) (by decide) rfl (by kernel_rfl) (newG_keep n W.heap.size) ?ext ?fin
  case ext =>
    intro i hi o ho a w2 hb hold hf
    simp only [List.mem_cons, List.not_mem_nil, or_false] at hi
    rcases hi with rfl | rfl | rfl | rfl
    all_goals cases ho
    · exact does_move _ rfl (eval_tmp (hold 0 (by decide)))
    · obtain ⟨g0, h0⟩ := hf 0 24 rfl rfl
      have h0 : a.tmps[24]?.getD undef = .int .i64 n := h0
      refine does_call (f := 13) (args := #[.int .i64 n]) ?_ ((new_any n [] w2 w2 hn1 hn (Lay.nil w2)).mono fun e w' ⟨v, h1, g, gl, h3, h4⟩ => ⟨v, h1, h4.bel, 0, ⟨g, gl, w2, h3, hb.size, h4⟩, fun h => by cases h⟩)
      go_simp
    · exact does_move _ rfl (eval_tmp (hold 0 (by decide)))
    · obtain ⟨g0, h0⟩ := hf 2 26 rfl rfl
      have h0 : a.tmps[26]?.getD undef = .int .i64 n := h0
      exact does_new (f := fun g => .slice (some ⟨g, 0, none⟩) n n) (does_mkN _ _ rfl _ iO _ _ _ Try.underlying45 hiO hzO0 hzO1 hzO2 (eval_tmp h0) (by omega) (by omega)) true
  case fin =>
    intro y γ w2 hb hy hn2 hap
    have y0 : y 0 = .int .i64 n := hy 0 (by decide)
    have y2 : y 2 = .int .i64 n := hy 2 (by decide)
    obtain ⟨g, gl, u, y1, hu, hlu⟩ := hy 1 (by decide)
    obtain ⟨y3, o3⟩ := hy 3 (by decide)
    obtain ⟨l3, -⟩ := hn2 3 (by decide) rfl
    simp only [List.drop_succ_cons, List.drop_zero, List.zip_cons_cons, List.zip_nil_right, List.foldl_cons, List.foldl_nil, y0, y1, y2, y3]
    simp only [Act.put, List.setIfInBounds_toArray, List.set_cons_zero, List.set_cons_succ]
    generalize γ 3 = lo at l3 o3 ⊢
    have hj : Lay w w2 (rowsE g gl n (ESq n) none 0 [blkG br nilsG]) := HW.out.join (hlu.rebase hu hb)
    have hmz : (madeCells (Value.agg #[.slice none 0 0, .int .i64 0, .slice none 0 0, .slice none 0 0]).cells (n * 4)).size = n * 4 := size_madeCells _ _
    have ho : Own w2 w.heap.size 50 4 (some ⟨lo, 0, none⟩) n n (lgF a0L LS0) := by
      refine .inr ⟨lo, _, rfl, Nat.le_trans HW.out.size l3, o3, Nat.le_refl _, by unfold maxLen; omega, hmz, fun j hj => ?_⟩
      rw [oneL_zero]
      exact made_at _ _ _ hj
    have hj2 := hj.cons (r := ⟨some ⟨lo, 0, none⟩, 50, 4, n, n, lgF a0L LS0⟩) ho (fun i s hi => by
      have hs := hj.own i s hi
      have hm := List.mem_of_getElem? hi
      simp only [List.mem_cons, List.not_mem_nil, or_false] at hm
      rcases hm with rfl | rfl | rfl | rfl
      · exact ho.ne_ hs (show (50 : TypeId) ≠ 57 by decide)
      · exact ho.ne_ hs (show (50 : TypeId) ≠ 60 by decide)
      · exact ho.ne_ hs (show (50 : TypeId) ≠ 73 by decide)
      · exact ho.ne_ hs (show (50 : TypeId) ≠ 27 by decide))
    have HL2 := Lib.hid hj2
    clear hj hj2 ho hmz hlu hu o3 l3 hap hy hn2 y0 y1 y2 y3 hb HW
    go_wp2
    have HL3 : Hid (∃ gg be, w2.heap.size = gg ∧ w2.heap.size + 1 = be ∧ Lay w ((w2.alloc (.cells #[.pointer (some ⟨g, 0, none⟩), .slice (some ⟨lo, 0, none⟩) n n] 47)).alloc (.cells #[.slice none 0 0, .slice none 0 0, .slice none 0 0, .slice none 0 0, .slice none 0 0] 27)) (rowsG gg g gl lo n (lgE n M 0) none 0 a0L [lstC none 0 0 (lgC n M), blkG be nilsG, blkG br nilsG])) := by
      refine Lib.hid ⟨_, _, rfl, rfl, ?_⟩
      have h1 := lg_start (HL2.out.newB [.pointer (some ⟨g, 0, none⟩), .slice (some ⟨lo, 0, none⟩) n n] 47 2 rfl _ rfl)
      have h2 := (h1.lnil 28 1 (fun i => .int .i64 (lgC n M i))).newB nilsG 27 5 rfl (w2.heap.size + 1) (by simp)
      exact lg_mid2 h2
    obtain ⟨gg, be, hgg, hbe, h3⟩ := HL3.out
    refine at_lay (F := fun W' => Code.wp _ _ _ _ W') h3 ?_
    intro W3 hW3
    rw [hbe, hgg]
    have HL4 := Lib.hid hW3
    have HD0 : Hid (LdOk n a0L (lgE n M 0)) := Lib.hid (fun i hi => by cases hi)
    clear hW3 h3 HL3 HL2 hbe hgg
    go_loopw [32] (fun i wr => ∃ j : Nat, j ≤ m ∧ i = .int .i64 j ∧ ∃ AL cL a AC cC, Hid (LdOk n a (lgE n M j)) ∧ Hid (Lay w wr (rowsG gg g gl lo n (lgE n M j) AL cL a [lstC AC j cC (lgC n M), blkG be [.slice AC j cC, .slice none 0 0, .slice none 0 0, .slice none 0 0, .slice none 0 0], blkG br nilsG]))) (fun i _ => m - (intOf i).toNat)
    case atStart => exact ⟨0, by omega, rfl, none, 0, a0L, none, 0, HD0, HL4⟩
    case round =>
      clear HL4 HD0
      obtain ⟨j, hj, rfl, AL, cL, a, AC, cC, HD, HQ⟩ := hrel
      by_cases hlt : j < m
      · obtain ⟨ad, rfl, hbl, m0, m1, m2, m3⟩ := (HR.out.below (HQ.out.bel.mono hB)).rec4 hlt
        clear hbl
        go_wp2
        clear m0 m1 m2 m3
        have HQ1 : Hid (Lay w (wr.alloc (.cells #[.int .i64 (M.k j), .int .i64 (M.f j), .int .i64 (M.t j), .int .i64 (M.v j)] 40)) (rowsG gg g gl lo n (lgE n M j) AL cL a [lstC AC j cC (lgC n M), blkG be [.slice AC j cC, .slice none 0 0, .slice none 0 0, .slice none 0 0, .slice none 0 0], blkG br nilsG, mvR wr.heap.size (M.k j) (M.f j) (M.t j) (M.v j)])) :=
          Lib.hid (lg_perm (Lay.mid (P := headF gg g gl lo n (lgE n M j).e AL cL (lgF a (lgE n M j)) (famR a (lgE n M j))) (HQ.out.newB [.int .i64 (M.k j), .int .i64 (M.f j), .int .i64 (M.t j), .int .i64 (M.v j)] 40 4 rfl _ rfl)) [1, 2, 3, 0] (by decide) rfl)
        refine at_lay (F := fun W' => Code.wp _ _ _ _ W') HQ1.out ?_
        intro W hW
        have HW := Lib.hid hW
        clear hW HQ1 HQ
        generalize wr.heap.size = q at HW ⊢
        have hs : MvS be q (.slice AC j cC) (M.k j) (M.f j) (M.t j) (M.v j) W := MvS.of HW.out (5 + 3 * n + 1) (5 + 3 * n + 3) (by rw [lg_tl]; rfl) (by omega) (by rw [lg_tl]; rfl)
        have HS := Lib.hid hs
        refine wp_held_mask (MvS be q (.slice AC j cC) (M.k j) (M.f j) (M.t j) (M.v j)) [true, true, true, true, false, false, false, false, false] ?A1 (by kernel_rfl) rfl (by kernel_rfl) (by repeat' (first | (with_reducible apply tame_then) | (with_reducible apply tame_block) | (with_reducible apply tame_scope) | exact tame_gives | exact tame_body (fun _ _ h => ⟨_, h.1⟩))) hs ?head ?tail
        case head =>
          intro W5 ⟨s0, s1, s2, s3, s4⟩
          simp only [pick]
          go_wp2
          exact taken
        case tail =>
          clear hs
          simp only [pick, List.map_cons, List.map_nil, Bool.not_true, Bool.not_false]
          refine tail_step ?_
          go_wp2_with fail
          refine (dog_any gg g gl lo n (lgE n M j) AL cL a _ w _ (M.k j) (M.f j) (M.t j) (M.v j) hn ((LB.all n M j).mono (by omega)) HD.out HW.out.drew).mono ?_
          rintro e w3 ⟨rfl, AL3, cL3, a3, hd3, h3⟩
          have HD3 : Hid (LdOk n a3 (lgE n M (j + 1))) := Lib.hid hd3
          have H3 : Hid (Lay w w3 (rowsG gg g gl lo n (lgE n M (j + 1)) AL3 cL3 a3 [lstC AC j cC (lgC n M), blkG be [.slice AC j cC, .slice none 0 0, .slice none 0 0, .slice none 0 0, .slice none 0 0], blkG br nilsG, mvR q (M.k j) (M.f j) (M.t j) (M.v j)])) := h3
          clear h3 hd3 HW HD
          go_wp2
          refine holds (MvS.of H3.out (5 + 3 * n + 1) (5 + 3 * n + 3) (by rw [lg_tl]; rfl) (by omega) (by rw [lg_tl]; rfl)) ?_
          refine tail_step ?_
          go_wp2
          refine holds (MvS.of (H3.out.alloc _) (5 + 3 * n + 1) (5 + 3 * n + 3) (by rw [lg_tl]; rfl) (by omega) (by rw [lg_tl]; rfl)) ?_
          refine tail_step ?_
          refine wpList_ap1 rfl (.tmp 37) (.tmp 41) _ rfl 28 iE _ 8 Try.underlying23 hiE hzE0 hzE1 hzE2 rfl w.heap.size rfl ((H3.out.alloc _).own (5 + 3 * n + 0) _ (by rw [lg_tl]; rfl)) rfl (cell_new _ _ _ _ _ rfl (one_cell _)) (fun _ _ => rfl) (fun i => .int .i64 (lgC n M i)) (fun _ _ => rfl) (one_at rfl) (j + 1) rfl (by unfold maxLen; omega) (by omega) (by have := H3.out.size; simp; omega) ?_
          intro A2 cap2 w4 ho hg ha
          have H4 : Hid (Lay w w4 (rowsG gg g gl lo n (lgE n M (j + 1)) AL3 cL3 a3 [lstC A2 (j + 1) cap2 (lgC n M), blkG be [.slice AC j cC, .slice none 0 0, .slice none 0 0, .slice none 0 0, .slice none 0 0], blkG br nilsG, mvR q (M.k j) (M.f j) (M.t j) (M.v j)])) :=
            Lib.hid (by have h5 := (H3.out.alloc _).app (5 + 3 * n + 0) (by rw [lg_tl]; rfl) ho hg ha; rw [lg_tlset] at h5; exact h5)
          clear ho hg ha H3
          have HS4 := Lib.hid (MvS.of H4.out (5 + 3 * n + 1) (5 + 3 * n + 3) (by rw [lg_tl]; rfl) (by omega) (by rw [lg_tl]; rfl) : MvS be q (.slice AC j cC) (M.k j) (M.f j) (M.t j) (M.v j) w4)
          have d0 := HS4.out.1
          have e0 := H4.out.frz (5 + 3 * n + 1) (g := be) (by rw [lg_tl]; rfl) (by omega) 0
          go_wp2
          refine holds HS4.out ?_
          refine tail_step ?_
          go_wp2
          refine holds HS4.out ?_
          refine tail_last ?_
          go_wp2
          go_roundw
          case rel =>
            refine ⟨j + 1, by omega, by go_num, AL3, cL3, a3, A2, cap2, HD3, ?_⟩
            have h6 := H4.out.fld (5 + 3 * n + 1) 0 (.slice A2 (j + 1) cap2) (by rw [lg_tl]; rfl) (by omega) (by simp)
            rw [lg_tlset] at h6
            exact lg_perm h6 [0, 1, 2] (by decide) rfl
          case measure => simp [intOf]; omega
      · obtain rfl : j = m := by omega
        obtain ⟨S, hS⟩ : ∃ S, lgE n M j = S := ⟨_, rfl⟩
        have hle30 : ∀ i, (S.lg i).length ≤ 30 := fun i => by rw [← hS]; exact (LB.all n M j).len i
        have HSS := Lib.hid hS
        rw [hS] at HQ
        have HLE := Lib.hid hle30
        clear hS HD hle30
        obtain ⟨d0, d1⟩ := lg_heads HQ.out
        have HX0 : Hid (Lay w wr (outX be br j 0 AC none none none none cC 0 0 0 0 n M S (fun _ => undef) ++ rowsG gg g gl lo n S AL cL a [])) :=
          Lib.hid (((((lg_flip HQ.out).lnil 3 1 (fun i => .int .i64 (S.su i : Nat))).lnil 33 1 (fun _ => undef)).lnil 3 1 (fun i => .int .i64 (S.e.R i))).lnil 3 1 (fun i => .int .i64 (S.e.T i : Nat)))
        go_wp2
        obtain ⟨w6, hw6⟩ : ∃ w6, w6 = wr := ⟨_, rfl⟩
        subst hw6
        go_loopw [50] (fun x wr => ∃ q : Nat, q ≤ n ∧ x = .int .i64 q ∧ ∃ AT cT AR cR AG cG gG AS cS, Hid (CopyAll w.heap.size gG q S wr) ∧ Hid (Lay w wr (outX be br j q AC AT AR AG AS cC cT cR cG cS n M S gG ++ rowsG gg g gl lo n S AL cL a []))) (fun x _ => n - (intOf x).toNat)
        case atStart => exact ⟨0, by omega, rfl, none, 0, none, 0, none, 0, (fun _ => undef), none, 0, Lib.hid (fun a ha => by omega), HX0⟩
        case round =>
          clear HX0 HQ d0 d1
          obtain ⟨q, hq, rfl, AT, cT, AR, cR, AG, cG, gG, AS, cS, HC, HQ⟩ := hrel
          obtain ⟨aa, haa⟩ : ∃ aa, a = aa := ⟨_, rfl⟩
          rw [haa] at HQ
          by_cases hlt : q < n
          · obtain ⟨l0, l1, l2, l3⟩ := lg_cells HQ.out.drops hlt
            go_wp2
            have HX1 : Hid (Lay w (wr.alloc (.cells #[.slice (aa.A q) (S.lg q).length (aa.c q), .int .i64 (S.su q : Nat), .slice (aa.hA q) (aa.hn q) (aa.hc q), .slice (aa.nA q) (aa.nn q) (aa.nc q)] 50)) (bxO wr.heap.size aa S q :: (outX be br j q AC AT AR AG AS cC cT cR cG cS n M S gG ++ rowsG gg g gl lo n S AL cL aa []))) :=
              Lib.hid (HQ.out.newB [.slice (aa.A q) (S.lg q).length (aa.c q), .int .i64 (S.su q : Nat), .slice (aa.hA q) (aa.hn q) (aa.hc q), .slice (aa.nA q) (aa.nn q) (aa.nc q)] 50 4 rfl _ rfl)
            have HC1 := fun o => Lib.hid (HC.out.below ((Below.refl wr.heap.size wr).alloc (Nat.le_refl _) o))
            refine at_world (F := fun W' => Code.wp _ _ _ _ W') (fun W => Lay w W (bxO wr.heap.size aa S q :: (outX be br j q AC AT AR AG AS cC cT cR cG cS n M S gG ++ rowsG gg g gl lo n S AL cL aa [])) ∧ CopyAll w.heap.size gG q S W) ⟨HX1.out, (HC1 _).out⟩ ?_
            intro W ⟨hW, hC⟩
            have HW := Lib.hid hW
            have HCW := Lib.hid hC
            clear hW hC HX1 HC1 HC HQ l0 l1 l2 l3
            generalize wr.heap.size = qb at HW ⊢
            refine wp_layS HW.out [0, 1, 2, 3, 4, 5, 6, 7, 8, 9, 10, 11, 12, 13, 14, 15, 16, 17, 18, 19, 20] [55, 56, 57, 58, 59, 60, 61, 62, 63, 64, 65, 66, 67, 68, 69, 70, 71, 72, 73, 74, 75] [21, 22, 23] 21 [laneS 9 1 8 24 3 8 (AT) (q) (cT) (fun a => .int .i64 (S.e.T a : Nat)) (isX (.int .i64 (S.e.T q : Nat))), laneS 19 11 18 24 3 8 (AR) (q) (cR) (fun a => .int .i64 (S.e.R a)) (isX (.int .i64 (S.e.R q)))] (fun j => if j = 9 then 1 else 2)
              [isX (.pointer (some ⟨be, 1, none⟩)), isX (.slice AT q cT), isX (.pointer (some ⟨gg, 0, none⟩)), isX (.pointer (some ⟨gg, 0, none⟩)), isX (.pointer (some ⟨gg, 0, none⟩)), isX (.pointer (some ⟨g, 0, none⟩)), isX (.int .i64 (q : Nat)), isX (.int .i64 (S.e.T q : Nat)), BoxOf W.heap.size 3 (isX (.int .i64 (S.e.T q : Nat))), isX undef, isX (.pointer (some ⟨be, 2, none⟩)), isX (.slice AR q cR), isX (.pointer (some ⟨gg, 0, none⟩)), isX (.pointer (some ⟨gg, 0, none⟩)), isX (.pointer (some ⟨gg, 0, none⟩)), isX (.pointer (some ⟨g, 0, none⟩)), isX (.int .i64 (q : Nat)), isX (.int .i64 (S.e.R q)), BoxOf W.heap.size 3 (isX (.int .i64 (S.e.R q))), isX undef, isX (.pointer (some ⟨be, 1, none⟩))]
              ((fun W1 => (W1.cell? ⟨be, 1, none⟩ = some (.slice AT q cT) ∧ W1.cell? ⟨be, 2, none⟩ = some (.slice AR q cR)) ∧ W1.cell? ⟨gg, 0, none⟩ = some (.pointer (some ⟨g, 0, none⟩)) ∧ W1.cell? ⟨g, 0, none⟩ = some (.slice (some ⟨gl, 0, none⟩) n n) ∧ W1.cell? ⟨gl, q * 4, none⟩ = some (.int .i64 (S.e.T q : Nat)) ∧ W1.cell? ⟨gl, q * 4 + 1, none⟩ = some (.int .i64 (S.e.R q)))) (by kernel_rfl) (by kernel_rfl) rfl (by decide) rfl (by kernel_rfl) ⟨?rowat, ?injk⟩ ?inj ?srcs ?stays ?ok ?hS ?ext ?fin
            case rowat => intro r hr; simp only [List.mem_cons, List.not_mem_nil, or_false] at hr; rcases hr with rfl | rfl <;> rfl
            case injk => intro r hr q hq h; simp only [List.mem_cons, List.not_mem_nil, or_false] at hr hq; rcases hr with rfl | rfl <;> rcases hq with rfl | rfl <;> first | rfl | (exact absurd h (by simp))
            case inj => intro r hr; simp only [List.mem_cons, List.not_mem_nil, or_false] at hr; rcases hr with rfl | rfl <;> rfl
            case srcs => intro r hr; simp only [List.mem_cons, List.not_mem_nil, or_false] at hr; rcases hr with rfl | rfl <;> first | exact stays_x _ _
            case stays => intro φ hφ; simp only [List.mem_cons, List.not_mem_nil, or_false] at hφ; rcases hφ with rfl | rfl | rfl | rfl | rfl | rfl | rfl | rfl | rfl | rfl | rfl | rfl | rfl | rfl | rfl | rfl | rfl | rfl | rfl | rfl | rfl <;> first | exact stays_x _ _ | exact stays_box (stays_x _ _)
            case ok =>
              intro r hr
              simp only [List.mem_cons, List.not_mem_nil, or_false] at hr
              rcases hr with rfl | rfl
              · exact ⟨(show (9 : Nat) ∈ ([0, 1, 2, 3, 4, 5, 6, 7, 8, 9, 10, 11, 12, 13, 14, 15, 16, 17, 18, 19, 20] : List Nat) by decide), rfl, by intro o ho; cases ho; rfl, rfl, rfl, Try.underlying24, ⟨iI, _, hiI, hzI0, hzI1, hzI2, rfl⟩, by show q + 1 ≤ maxLen; unfold maxLen; omega, by show (q + 1) * 8 ≤ _; omega, fun v w h => h, fun v w h => h⟩
              · exact ⟨(show (19 : Nat) ∈ ([0, 1, 2, 3, 4, 5, 6, 7, 8, 9, 10, 11, 12, 13, 14, 15, 16, 17, 18, 19, 20] : List Nat) by decide), rfl, by intro o ho; cases ho; rfl, rfl, rfl, Try.underlying24, ⟨iI, _, hiI, hzI0, hzI1, hzI2, rfl⟩, by show q + 1 ≤ maxLen; unfold maxLen; omega, by show (q + 1) * 8 ≤ _; omega, fun v w h => h, fun v w h => h⟩
            case hS =>
              intro hk w1 hkp
              have hb := fun o (ho : o < 5) => lay_cell HW.out hk hkp 6 rfl (fun r hr => by simp only [List.mem_cons, List.not_mem_nil, or_false] at hr; rcases hr with rfl | rfl <;> simp) o ho
              have hg := fun o (ho : o < 2) => lay_cell HW.out hk hkp 11 rfl (fun r hr => by simp only [List.mem_cons, List.not_mem_nil, or_false] at hr; rcases hr with rfl | rfl <;> simp) o ho
              have he := fun o (ho : o < 2) => lay_cell HW.out hk hkp 8 rfl (fun r hr => by simp only [List.mem_cons, List.not_mem_nil, or_false] at hr; rcases hr with rfl | rfl <;> simp) o ho
              have hl := fun o (ho : o < n * 4) => lay_cellN HW.out hk hkp 9 rfl (fun r hr => by simp only [List.mem_cons, List.not_mem_nil, or_false] at hr; rcases hr with rfl | rfl <;> simp) o ho
              exact ⟨⟨hb 1 (by omega), hb 2 (by omega)⟩, hg 0 (by omega), he 0 (by omega), (hl (q * 4) (by omega)).trans (by rw [oneF_0]), (hl (q * 4 + 1) (by omega)).trans (by rw [oneF_1])⟩
            case ext =>
              intro i hi hn o ho a w1 hs hs1 hold hf
              obtain ⟨⟨s1, s2⟩, s0, s3, s4, s5⟩ := hs1
              simp only [List.mem_cons, List.not_mem_nil, or_false] at hi
              rcases hi with rfl | rfl | rfl | rfl | rfl | rfl | rfl | rfl | rfl | rfl | rfl | rfl | rfl | rfl | rfl | rfl | rfl | rfl | rfl | rfl | rfl
              all_goals cases ho
              · have h1 : a.tmps[7]?.getD undef = .pointer (some ⟨be, 0, none⟩) := hold 7 (by decide)
                exact doesP (.pointer (some ⟨be, 1, none⟩)) rfl (by go_simp)
              · have h1 : a.tmps[55]?.getD undef = .pointer (some ⟨be, 1, none⟩) := hf 0 55 rfl rfl rfl
                exact doesP (.slice AT q cT) rfl (by go_simp)
              · have h1 : a.tmps[6]?.getD undef = .pointer (some ⟨gg, 0, none⟩) := hold 6 (by decide)
                exact doesP (.pointer (some ⟨gg, 0, none⟩)) rfl (by go_simp)
              · have h1 : a.tmps[57]?.getD undef = .pointer (some ⟨gg, 0, none⟩) := hf 2 57 rfl rfl rfl
                exact doesP (.pointer (some ⟨gg, 0, none⟩)) rfl (by go_simp)
              · have h1 : a.tmps[58]?.getD undef = .pointer (some ⟨gg, 0, none⟩) := hf 3 58 rfl rfl rfl
                exact doesP (.pointer (some ⟨gg, 0, none⟩)) rfl (by go_simp)
              · have h1 : a.tmps[59]?.getD undef = .pointer (some ⟨gg, 0, none⟩) := hf 4 59 rfl rfl rfl
                exact doesP (.pointer (some ⟨g, 0, none⟩)) rfl (by go_simp)
              · have h1 : a.tmps[10]?.getD undef = .int .i64 (q : Nat) := hold 10 (by decide)
                exact doesP (.int .i64 (q : Nat)) rfl (by go_simp)
              · have h1 : a.tmps[60]?.getD undef = .pointer (some ⟨g, 0, none⟩) := hf 5 60 rfl rfl rfl
                have h2 : a.tmps[61]?.getD undef = .int .i64 (q : Nat) := hf 6 61 rfl rfl rfl
                exact doesP_call (isX (.int .i64 (S.e.T q : Nat))) rfl (by go_simp) (term_b g gl n q _ w1 hlt s3 s4)
              · have h1 : a.tmps[62]?.getD undef = .int .i64 (S.e.T q : Nat) := hf 7 62 rfl rfl rfl
                exact doesP_box 3 (.int .i64 (S.e.T q : Nat)) (isX (.int .i64 (S.e.T q : Nat))) rfl rfl hs rfl (stays_x _ _) (by go_simp)
              · cases hn
              · have h1 : a.tmps[7]?.getD undef = .pointer (some ⟨be, 0, none⟩) := hold 7 (by decide)
                exact doesP (.pointer (some ⟨be, 2, none⟩)) rfl (by go_simp)
              · have h1 : a.tmps[65]?.getD undef = .pointer (some ⟨be, 2, none⟩) := hf 10 65 rfl rfl rfl
                exact doesP (.slice AR q cR) rfl (by go_simp)
              · have h1 : a.tmps[6]?.getD undef = .pointer (some ⟨gg, 0, none⟩) := hold 6 (by decide)
                exact doesP (.pointer (some ⟨gg, 0, none⟩)) rfl (by go_simp)
              · have h1 : a.tmps[67]?.getD undef = .pointer (some ⟨gg, 0, none⟩) := hf 12 67 rfl rfl rfl
                exact doesP (.pointer (some ⟨gg, 0, none⟩)) rfl (by go_simp)
              · have h1 : a.tmps[68]?.getD undef = .pointer (some ⟨gg, 0, none⟩) := hf 13 68 rfl rfl rfl
                exact doesP (.pointer (some ⟨gg, 0, none⟩)) rfl (by go_simp)
              · have h1 : a.tmps[69]?.getD undef = .pointer (some ⟨gg, 0, none⟩) := hf 14 69 rfl rfl rfl
                exact doesP (.pointer (some ⟨g, 0, none⟩)) rfl (by go_simp)
              · have h1 : a.tmps[10]?.getD undef = .int .i64 (q : Nat) := hold 10 (by decide)
                exact doesP (.int .i64 (q : Nat)) rfl (by go_simp)
              · have h1 : a.tmps[70]?.getD undef = .pointer (some ⟨g, 0, none⟩) := hf 15 70 rfl rfl rfl
                have h2 : a.tmps[71]?.getD undef = .int .i64 (q : Nat) := hf 16 71 rfl rfl rfl
                exact doesP_call (isX (.int .i64 (S.e.R q))) rfl (by go_simp) (role_b g gl n q _ w1 hlt s3 s5)
              · have h1 : a.tmps[72]?.getD undef = .int .i64 (S.e.R q) := hf 17 72 rfl rfl rfl
                exact doesP_box 3 (.int .i64 (S.e.R q)) (isX (.int .i64 (S.e.R q))) rfl rfl hs rfl (stays_x _ _) (by go_simp)
              · cases hn
              · have h1 : a.tmps[7]?.getD undef = .pointer (some ⟨be, 0, none⟩) := hold 7 (by decide)
                exact doesP (.pointer (some ⟨be, 1, none⟩)) rfl (by go_simp)
            case fin =>
              intro y ρ w5 hy hs5 hρ hkp hL
              have y0 : y 0 = .pointer (some ⟨be, 1, none⟩) := hy 0 (by decide) rfl
              have y1 : y 1 = .slice AT q cT := hy 1 (by decide) rfl
              have y2 : y 2 = .pointer (some ⟨gg, 0, none⟩) := hy 2 (by decide) rfl
              have y3 : y 3 = .pointer (some ⟨gg, 0, none⟩) := hy 3 (by decide) rfl
              have y4 : y 4 = .pointer (some ⟨gg, 0, none⟩) := hy 4 (by decide) rfl
              have y5 : y 5 = .pointer (some ⟨g, 0, none⟩) := hy 5 (by decide) rfl
              have y6 : y 6 = .int .i64 (q : Nat) := hy 6 (by decide) rfl
              have y7 : y 7 = .int .i64 (S.e.T q : Nat) := hy 7 (by decide) rfl
              have y10 : y 10 = .pointer (some ⟨be, 2, none⟩) := hy 10 (by decide) rfl
              have y11 : y 11 = .slice AR q cR := hy 11 (by decide) rfl
              have y12 : y 12 = .pointer (some ⟨gg, 0, none⟩) := hy 12 (by decide) rfl
              have y13 : y 13 = .pointer (some ⟨gg, 0, none⟩) := hy 13 (by decide) rfl
              have y14 : y 14 = .pointer (some ⟨gg, 0, none⟩) := hy 14 (by decide) rfl
              have y15 : y 15 = .pointer (some ⟨g, 0, none⟩) := hy 15 (by decide) rfl
              have y16 : y 16 = .int .i64 (q : Nat) := hy 16 (by decide) rfl
              have y17 : y 17 = .int .i64 (S.e.R q) := hy 17 (by decide) rfl
              have y20 : y 20 = .pointer (some ⟨be, 1, none⟩) := hy 20 (by decide) rfl
              obtain ⟨B0, b0, k0, y9, hk0, r0⟩ := hρ _ (List.mem_cons_self ..)
              obtain ⟨B1, b1, k1, y19, hk1, r1⟩ := hρ _ (List.mem_cons_of_mem _ (List.mem_cons_self ..))
              simp only [List.drop_succ_cons, List.drop_zero, List.zip_cons_cons, List.zip_nil_right, List.foldl_cons, List.foldl_nil, y0, y1, y2, y3, y4, y5, y6, y7, y10, y11, y12, y13, y14, y15, y16, y17, y20, y9, y19]
              simp only [Act.put, List.setIfInBounds_toArray, List.set_cons_zero, List.set_cons_succ]
              have r0 : ρ 9 = _ := r0
              have r1 : ρ 19 = _ := r1
              clear hy hρ y0 y1 y2 y3 y4 y5 y6 y7 y10 y11 y12 y13 y14 y15 y16 y17 y20 y9 y19
              have HCY : Hid (CopyAll w.heap.size gG q S w5) := Lib.hid (HCW.out.kept hkp fun b ⟨r, hr, hrb⟩ => by
                simp only [List.mem_cons, List.not_mem_nil, or_false] at hr
                rcases hr with rfl | rfl
                · exact ⟨_, _, _, _, _, _, _, HW.out.own 1 _ rfl, hrb, hneI⟩
                · exact ⟨_, _, _, _, _, _, _, HW.out.own 2 _ rfl, hrb, hneI⟩)
              have hL2 : Lay w w5 (bxO qb aa S q :: ([lstI B0 (q + 1) b0 (fun i => if i < q then .int .i64 (S.e.T i : Nat) else k0), lstI B1 (q + 1) b1 (fun i => if i < q then .int .i64 (S.e.R i) else k1), lstG AG q cG gG, lstI AS q cS (fun i => .int .i64 (S.su i : Nat)), lstC AC j cC (lgC n M), blkG be [.slice AC j cC, .slice AT q cT, .slice AR q cR, .slice AG q cG, .slice AS q cS], blkG br nilsG] ++ rowsG gg g gl lo n S AL cL aa [])) := by
                unfold setRows at hL
                simp only [List.foldl_cons, List.foldl_nil, r0, r1] at hL
                exact hL
              have hL3 := (hL2.congr 1 (fun i => .int .i64 (S.e.T i : Nat)) rfl (lane_fun (F := fun i => .int .i64 (S.e.T i : Nat)) hk0)).congr 2 (fun i => .int .i64 (S.e.R i)) rfl (lane_fun (F := fun i => .int .i64 (S.e.R i)) hk1)
              have HL3 : Hid (Lay w w5 (bxO qb aa S q :: ([lstI B0 (q + 1) b0 (fun i => .int .i64 (S.e.T i : Nat)), lstI B1 (q + 1) b1 (fun i => .int .i64 (S.e.R i)), lstG AG q cG gG, lstI AS q cS (fun i => .int .i64 (S.su i : Nat)), lstC AC j cC (lgC n M), blkG be [.slice AC j cC, .slice AT q cT, .slice AR q cR, .slice AG q cG, .slice AS q cS], blkG br nilsG] ++ rowsG gg g gl lo n S AL cL aa []))) := Lib.hid hL3
              clear hL hL2 hL3 r0 r1 hs5 hk0 hk1 hkp HW HCW
              have c1 := HL3.out.cellB 6 rfl 1 (by omega)
              have c2 := HL3.out.cellB 6 rfl 2 (by omega)
              simp only [ofL_1, ofL_2] at c1 c2
              have f1 := HL3.out.frz 6 rfl (by omega) 1
              have f2 := HL3.out.frz 6 rfl (by omega) 2
              have HL4 := Lib.hid ((HL3.out.fld 6 1 (.slice B0 (q + 1) b0) rfl (by omega) (by simp)).fld 6 2 (.slice B1 (q + 1) b1) rfl (by omega) (by simp))
              have HC4 := Lib.hid ((HCY.out.set (HL3.out.own 6 _ rfl) hneL 1 (.slice B0 (q + 1) b0)).set ((HL3.out.fld 6 1 (.slice B0 (q + 1) b0) rfl (by omega) (by simp)).own 6 _ rfl) hneL 2 (.slice B1 (q + 1) b1))
              go_wp2
              refine at_world (F := fun W' => Code.wp _ _ _ _ W') (fun W => Lay w W (bxO qb aa S q :: ([lstI B0 (q + 1) b0 (fun i => .int .i64 (S.e.T i : Nat)), lstI B1 (q + 1) b1 (fun i => .int .i64 (S.e.R i)), lstG AG q cG gG, lstI AS q cS (fun i => .int .i64 (S.su i : Nat)), lstC AC j cC (lgC n M), blkG be [.slice AC j cC, .slice B0 (q + 1) b0, .slice B1 (q + 1) b1, .slice AG q cG, .slice AS q cS], blkG br nilsG] ++ rowsG gg g gl lo n S AL cL aa [])) ∧ CopyAll w.heap.size gG q S W) ⟨HL4.out, HC4.out⟩ ?_
              intro W8 ⟨hW8, hC8⟩
              have HX := Lib.hid hW8
              have HC8 := Lib.hid hC8
              clear hW8 hC8 HL3 HL4 HC4 HCY c1 c2 f1 f2
              have hlen := HLE.out q
              have hnilq : aa.A q = none → (S.lg q).length = 0 := own_none (lg_own (HX.out.drops (X := bxO qb aa S q :: [lstI B0 (q + 1) b0 (fun i => .int .i64 (S.e.T i : Nat)), lstI B1 (q + 1) b1 (fun i => .int .i64 (S.e.R i)), lstG AG q cG gG, lstI AS q cS (fun i => .int .i64 (S.su i : Nat)), lstC AC j cC (lgC n M), blkG be [.slice AC j cC, .slice B0 (q + 1) b0, .slice B1 (q + 1) b1, .slice AG q cG, .slice AS q cS], blkG br nilsG])) hlt).1
              refine wp_layS HX.out [0, 1, 2, 3, 4, 5, 6, 7, 8, 9, 10, 11, 12, 13] [77, 78, 79, 80, 81, 82, 83, 84, 85, 86, 87, 88, 89, 90] [14, 15, 16] 14 [laneS 6 1 5 25 33 24 (AG) (q) (cG) (gG) (CopyE W8.heap.size (S.lg q)), laneS 12 8 11 24 3 8 (AS) (q) (cS) (fun a => .int .i64 (S.su a : Nat)) (isX (.int .i64 (S.su q : Nat)))] (fun j => if j = 6 then 3 else 4)
                [isX (.pointer (some ⟨be, 3, none⟩)), isX (.slice AG q cG), isX (.pointer (some ⟨qb, 0, none⟩)), isX (.slice (aa.A q) (S.lg q).length (aa.c q)), CopyE W8.heap.size (S.lg q), BoxOf W8.heap.size 33 (CopyE W8.heap.size (S.lg q)), isX undef, isX (.pointer (some ⟨be, 4, none⟩)), isX (.slice AS q cS), isX (.pointer (some ⟨qb, 1, none⟩)), isX (.int .i64 (S.su q : Nat)), BoxOf W8.heap.size 3 (isX (.int .i64 (S.su q : Nat))), isX undef, isX (.pointer (some ⟨be, 3, none⟩))]
                ((fun W1 => (W1.cell? ⟨be, 3, none⟩ = some (.slice AG q cG) ∧ W1.cell? ⟨be, 4, none⟩ = some (.slice AS q cS)) ∧ W1.cell? ⟨qb, 0, none⟩ = some (.slice (aa.A q) (S.lg q).length (aa.c q)) ∧ W1.cell? ⟨qb, 1, none⟩ = some (.int .i64 (S.su q : Nat)) ∧ Rd W1 W1.heap.size (aa.A q) ((S.lg q).length * 2) (entF (S.lg q)))) (by kernel_rfl) (by kernel_rfl) rfl (by decide) rfl (by kernel_rfl) ⟨?rowatb, ?injkb⟩ ?injb ?srcsb ?staysb ?okb ?hSb ?extb ?finb
              case rowatb => intro r hr; simp only [List.mem_cons, List.not_mem_nil, or_false] at hr; rcases hr with rfl | rfl <;> rfl
              case injkb => intro r hr q hq h; simp only [List.mem_cons, List.not_mem_nil, or_false] at hr hq; rcases hr with rfl | rfl <;> rcases hq with rfl | rfl <;> first | rfl | (exact absurd h (by simp))
              case injb => intro r hr; simp only [List.mem_cons, List.not_mem_nil, or_false] at hr; rcases hr with rfl | rfl <;> rfl
              case srcsb => intro r hr; simp only [List.mem_cons, List.not_mem_nil, or_false] at hr; rcases hr with rfl | rfl <;> first | exact stays_x _ _ | exact stays_copy _ _
              case staysb => intro φ hφ; simp only [List.mem_cons, List.not_mem_nil, or_false] at hφ; rcases hφ with rfl | rfl | rfl | rfl | rfl | rfl | rfl | rfl | rfl | rfl | rfl | rfl | rfl | rfl <;> first | exact stays_x _ _ | exact stays_box (stays_x _ _) | exact stays_copy _ _ | exact stays_box (stays_copy _ _)
              case okb =>
                intro r hr
                simp only [List.mem_cons, List.not_mem_nil, or_false] at hr
                rcases hr with rfl | rfl
                · exact ⟨(show (6 : Nat) ∈ ([0, 1, 2, 3, 4, 5, 6, 7, 8, 9, 10, 11, 12, 13] : List Nat) by decide), rfl, by intro o ho; cases ho; rfl, rfl, rfl, Try.underlying25, ⟨iG, _, hiG, hzG0, hzG1, hzG2, rfl⟩, by show q + 1 ≤ maxLen; unfold maxLen; omega, by show (q + 1) * 24 ≤ _; omega, fun v w h => h, fun v w h => h⟩
                · exact ⟨(show (12 : Nat) ∈ ([0, 1, 2, 3, 4, 5, 6, 7, 8, 9, 10, 11, 12, 13] : List Nat) by decide), rfl, by intro o ho; cases ho; rfl, rfl, rfl, Try.underlying24, ⟨iI, _, hiI, hzI0, hzI1, hzI2, rfl⟩, by show q + 1 ≤ maxLen; unfold maxLen; omega, by show (q + 1) * 8 ≤ _; omega, fun v w h => h, fun v w h => h⟩
              case hSb =>
                intro hk w1 hkp
                have hb := fun o (ho : o < 5) => lay_cell HX.out hk hkp 6 rfl (fun r hr => by simp only [List.mem_cons, List.not_mem_nil, or_false] at hr; rcases hr with rfl | rfl <;> simp) o ho
                have hq2 := fun o (ho : o < 4) => lay_cell HX.out hk hkp 0 rfl (fun r hr => by simp only [List.mem_cons, List.not_mem_nil, or_false] at hr; rcases hr with rfl | rfl <;> simp) o ho
                refine ⟨⟨hb 3 (by omega), hb 4 (by omega)⟩, hq2 0 (by omega), hq2 1 (by omega), ?_⟩
                have hoq := (lg_own (HX.out.drops (X := bxO qb aa S q :: [lstI B0 (q + 1) b0 (fun i => .int .i64 (S.e.T i : Nat)), lstI B1 (q + 1) b1 (fun i => .int .i64 (S.e.R i)), lstG AG q cG gG, lstI AS q cS (fun i => .int .i64 (S.su i : Nat)), lstC AC j cC (lgC n M), blkG be [.slice AC j cC, .slice B0 (q + 1) b0, .slice B1 (q + 1) b1, .slice AG q cG, .slice AS q cS], blkG br nilsG])) hlt).1
                exact (hoq.kept hkp fun b hb ⟨r, hr, hrb⟩ => by
                  have hl := HX.out.own _ _ (hk.at_ r hr)
                  simp only [List.mem_cons, List.not_mem_nil, or_false] at hr
                  rcases hr with rfl | rfl
                  · rcases hoq.ne_ hl (show (35 : TypeId) ≠ 33 by decide) with h | h
                    · rw [h] at hb; cases hb
                    · exact h (by rw [hb, hrb])
                  · rcases hoq.ne_ hl (show (35 : TypeId) ≠ 3 by decide) with h | h
                    · rw [h] at hb; cases hb
                    · exact h (by rw [hb, hrb])).rd
              case extb =>
                intro i hi hn o ho a w1 hs hs1 hold hf
                obtain ⟨⟨s1, s2⟩, s3, s4, s5⟩ := hs1
                simp only [List.mem_cons, List.not_mem_nil, or_false] at hi
                rcases hi with rfl | rfl | rfl | rfl | rfl | rfl | rfl | rfl | rfl | rfl | rfl | rfl | rfl | rfl
                all_goals cases ho
                · have h1 : a.tmps[7]?.getD undef = .pointer (some ⟨be, 0, none⟩) := hold 7 (by decide)
                  exact doesP (.pointer (some ⟨be, 3, none⟩)) rfl (by go_simp)
                · have h1 : a.tmps[77]?.getD undef = .pointer (some ⟨be, 3, none⟩) := hf 0 77 rfl rfl rfl
                  exact doesP (.slice AG q cG) rfl (by go_simp)
                · have h1 : a.tmps[11]?.getD undef = .pointer (some ⟨qb, 0, none⟩) := hold 11 (by decide)
                  exact doesP (.pointer (some ⟨qb, 0, none⟩)) rfl (by go_simp)
                · have h1 : a.tmps[79]?.getD undef = .pointer (some ⟨qb, 0, none⟩) := hf 2 79 rfl rfl rfl
                  exact doesP (.slice (aa.A q) (S.lg q).length (aa.c q)) rfl (by go_simp)
                · have h1 : a.tmps[80]?.getD undef = .slice (aa.A q) (S.lg q).length (aa.c q) := hf 3 80 rfl rfl rfl
                  exact doesP_call (CopyE W8.heap.size (S.lg q)) rfl (by go_simp) ((cloneE_any (aa.A q) (aa.c q) w1.heap.size (S.lg q) w1 hlen hnilq (Nat.le_refl _) s5).mono fun e w' ⟨x, e1, e2, e3⟩ => ⟨x, e1, copy_base hs e2, e3⟩)
                · obtain ⟨xA, xc, h1, hx⟩ : (CopyE W8.heap.size (S.lg q)) (a.tmps[81]?.getD undef) w1 := hf 4 81 rfl rfl rfl
                  exact doesP_box 33 _ (CopyE W8.heap.size (S.lg q)) rfl rfl hs ⟨xA, xc, rfl, hx⟩ (stays_copy _ _) (by go_simp)
                · cases hn
                · have h1 : a.tmps[7]?.getD undef = .pointer (some ⟨be, 0, none⟩) := hold 7 (by decide)
                  exact doesP (.pointer (some ⟨be, 4, none⟩)) rfl (by go_simp)
                · have h1 : a.tmps[84]?.getD undef = .pointer (some ⟨be, 4, none⟩) := hf 7 84 rfl rfl rfl
                  exact doesP (.slice AS q cS) rfl (by go_simp)
                · have h1 : a.tmps[11]?.getD undef = .pointer (some ⟨qb, 0, none⟩) := hold 11 (by decide)
                  exact doesP (.pointer (some ⟨qb, 1, none⟩)) rfl (by go_simp)
                · have h1 : a.tmps[86]?.getD undef = .pointer (some ⟨qb, 1, none⟩) := hf 9 86 rfl rfl rfl
                  exact doesP (.int .i64 (S.su q : Nat)) rfl (by go_simp)
                · have h1 : a.tmps[87]?.getD undef = .int .i64 (S.su q : Nat) := hf 10 87 rfl rfl rfl
                  exact doesP_box 3 (.int .i64 (S.su q : Nat)) (isX (.int .i64 (S.su q : Nat))) rfl rfl hs rfl (stays_x _ _) (by go_simp)
                · cases hn
                · have h1 : a.tmps[7]?.getD undef = .pointer (some ⟨be, 0, none⟩) := hold 7 (by decide)
                  exact doesP (.pointer (some ⟨be, 3, none⟩)) rfl (by go_simp)
              case finb =>
                intro y ρ w5 hy hs5 hρ hkp hL
                have y0 : y 0 = .pointer (some ⟨be, 3, none⟩) := hy 0 (by decide) rfl
                have y1 : y 1 = .slice AG q cG := hy 1 (by decide) rfl
                have y2 : y 2 = .pointer (some ⟨qb, 0, none⟩) := hy 2 (by decide) rfl
                have y3 : y 3 = .slice (aa.A q) (S.lg q).length (aa.c q) := hy 3 (by decide) rfl
                have y7 : y 7 = .pointer (some ⟨be, 4, none⟩) := hy 7 (by decide) rfl
                have y8 : y 8 = .slice AS q cS := hy 8 (by decide) rfl
                have y9 : y 9 = .pointer (some ⟨qb, 1, none⟩) := hy 9 (by decide) rfl
                have y10 : y 10 = .int .i64 (S.su q : Nat) := hy 10 (by decide) rfl
                have y13 : y 13 = .pointer (some ⟨be, 3, none⟩) := hy 13 (by decide) rfl
                obtain ⟨D0, e0, k0, y6, hk0, r0⟩ := hρ _ (List.mem_cons_self ..)
                obtain ⟨D1, e1, k1, y12, hk1, r1⟩ := hρ _ (List.mem_cons_of_mem _ (List.mem_cons_self ..))
                simp only [List.drop_succ_cons, List.drop_zero, List.zip_cons_cons, List.zip_nil_right, List.foldl_cons, List.foldl_nil, y0, y1, y2, y3, y7, y8, y9, y10, y13, y6, y12]
                simp only [Act.put, List.setIfInBounds_toArray, List.set_cons_zero, List.set_cons_succ]
                have r0 : ρ 6 = _ := r0
                have r1 : ρ 12 = _ := r1
                clear hy hρ y0 y1 y2 y3 y7 y8 y9 y10 y13 y6 y12
                have HCZ : Hid (CopyAll w.heap.size (fun i => if i < q then gG i else k0) (q + 1) S w5) := Lib.hid (fun x hx => by
                  have hold : CopyAll w.heap.size gG q S w5 := HC8.out.kept hkp fun b ⟨r, hr, hrb⟩ => by
                    simp only [List.mem_cons, List.not_mem_nil, or_false] at hr
                    rcases hr with rfl | rfl
                    · exact ⟨_, _, _, _, _, _, _, HX.out.own 3 _ rfl, hrb, hneG⟩
                    · exact ⟨_, _, _, _, _, _, _, HX.out.own 4 _ rfl, hrb, hneI⟩
                  by_cases hxq : x < q
                  · simp only [if_pos hxq]; exact hold x hxq
                  · obtain rfl : x = q := by omega
                    simp only [if_neg hxq]; exact copy_base HX.out.size hk0)
                have hL2 : Lay w w5 (bxO qb aa S q :: ([lstI B0 (q + 1) b0 (fun i => .int .i64 (S.e.T i : Nat)), lstI B1 (q + 1) b1 (fun i => .int .i64 (S.e.R i)), lstG D0 (q + 1) e0 (fun i => if i < q then gG i else k0), lstI D1 (q + 1) e1 (fun i => if i < q then .int .i64 (S.su i : Nat) else k1), lstC AC j cC (lgC n M), blkG be [.slice AC j cC, .slice B0 (q + 1) b0, .slice B1 (q + 1) b1, .slice AG q cG, .slice AS q cS], blkG br nilsG] ++ rowsG gg g gl lo n S AL cL aa [])) := by
                  unfold setRows at hL
                  simp only [List.foldl_cons, List.foldl_nil, r0, r1] at hL
                  exact hL
                have hL3 := hL2.congr 4 (fun i => .int .i64 (S.su i : Nat)) rfl (lane_fun (F := fun i => .int .i64 (S.su i : Nat)) hk1)
                have HL3 : Hid (Lay w w5 (bxO qb aa S q :: ([lstI B0 (q + 1) b0 (fun i => .int .i64 (S.e.T i : Nat)), lstI B1 (q + 1) b1 (fun i => .int .i64 (S.e.R i)), lstG D0 (q + 1) e0 (fun i => if i < q then gG i else k0), lstI D1 (q + 1) e1 (fun i => .int .i64 (S.su i : Nat)), lstC AC j cC (lgC n M), blkG be [.slice AC j cC, .slice B0 (q + 1) b0, .slice B1 (q + 1) b1, .slice AG q cG, .slice AS q cS], blkG br nilsG] ++ rowsG gg g gl lo n S AL cL aa []))) := Lib.hid hL3
                clear hL hL2 hL3 r0 r1 hs5 hk0 hk1 hkp HX HC8
                have c1 := HL3.out.cellB 6 rfl 3 (by omega)
                have c2 := HL3.out.cellB 6 rfl 4 (by omega)
                simp only [ofL_3, ofL_4] at c1 c2
                have f1 := HL3.out.frz 6 rfl (by omega) 3
                have f2 := HL3.out.frz 6 rfl (by omega) 4
                have HL4 := Lib.hid ((HL3.out.fld 6 3 (.slice D0 (q + 1) e0) rfl (by omega) (by simp)).fld 6 4 (.slice D1 (q + 1) e1) rfl (by omega) (by simp))
                have HC4 := Lib.hid ((HCZ.out.set (HL3.out.own 6 _ rfl) hneL 3 (.slice D0 (q + 1) e0)).set ((HL3.out.fld 6 3 (.slice D0 (q + 1) e0) rfl (by omega) (by simp)).own 6 _ rfl) hneL 4 (.slice D1 (q + 1) e1))
                go_wp2
                go_roundw
                case rel => exact ⟨q + 1, by omega, by go_num, B0, b0, B1, b1, D0, e0, _, D1, e1, HC4, by have h9 := HL4.out.tail; rw [← haa] at h9; exact h9⟩
                case measure => simp [intOf]; omega
          · obtain rfl : q = n := by omega
            have e0 := HQ.out.cellB 5 rfl 0 (by omega)
            have e1 := HQ.out.cellB 5 rfl 1 (by omega)
            have e2 := HQ.out.cellB 5 rfl 2 (by omega)
            have e3 := HQ.out.cellB 5 rfl 3 (by omega)
            have e4 := HQ.out.cellB 5 rfl 4 (by omega)
            have r0 := HQ.out.cellB 6 rfl 0 (by omega)
            have r1 := HQ.out.cellB 6 rfl 1 (by omega)
            have r2 := HQ.out.cellB 6 rfl 2 (by omega)
            have r3 := HQ.out.cellB 6 rfl 3 (by omega)
            have r4 := HQ.out.cellB 6 rfl 4 (by omega)
            have g0 := HQ.out.frz 6 rfl (by omega) 0
            have g1 := HQ.out.frz 6 rfl (by omega) 1
            have g2 := HQ.out.frz 6 rfl (by omega) 2
            have g3 := HQ.out.frz 6 rfl (by omega) 3
            have g4 := HQ.out.frz 6 rfl (by omega) 4
            simp only [ofL_0, ofL_1, ofL_2, ofL_3, ofL_4] at e0 e1 e2 e3 e4 r0 r1 r2 r3 r4
            go_wp2
            have hF := ((((HQ.out.fld 6 0 (.slice AC j cC) rfl (by omega) (by simp)).fld 6 1 (.slice AT q cT) rfl (by omega) (by simp)).fld 6 2 (.slice AR q cR) rfl (by omega) (by simp)).fld 6 3 (.slice AG q cG) rfl (by omega) (by simp)).fld 6 4 (.slice AS q cS) rfl (by omega) (by simp)
            have hS5 : ∀ (W : World) (o : Nat) (u : Value), Kept (fun b => b = br) wr W → Kept (fun b => b = br) wr (W.setCell ⟨br, o, none⟩ u) := fun W o u h => h.setCell (.inl rfl) u
            have hK : Kept (fun b => b = br) wr (((((wr.setCell ⟨br, 0, none⟩ (.slice AC j cC)).setCell ⟨br, 1, none⟩ (.slice AT q cT)).setCell ⟨br, 2, none⟩ (.slice AR q cR)).setCell ⟨br, 3, none⟩ (.slice AG q cG)).setCell ⟨br, 4, none⟩ (.slice AS q cS)) :=
              hS5 _ 4 _ (hS5 _ 3 _ (hS5 _ 2 _ (hS5 _ 1 _ (hS5 _ 0 _ (Kept.refl _ wr)))))
            have hC9 := HC.out.kept hK fun b hb => ⟨_, _, _, _, _, _, _, HQ.out.own 6 _ rfl, by rw [hb]; rfl, hneL⟩
            have hF2 : Lay w _ [lstI AT q cT (fun i => .int .i64 (S.e.T i : Nat)), lstI AR q cR (fun i => .int .i64 (S.e.R i)), lstG AG q cG gG, lstI AS q cS (fun i => .int .i64 (S.su i : Nat)), lstC AC j cC (lgC q M), blkG be [.slice AC j cC, .slice AT q cT, .slice AR q cR, .slice AG q cG, .slice AS q cS], blkG br [.slice AC j cC, .slice AT q cT, .slice AR q cR, .slice AG q cG, .slice AS q cS]] := hF.pick (fun k => k) (fun _ _ _ _ h => h) (fun k hk => by
              rcases k with _ | _ | _ | _ | _ | _ | _ | k
              all_goals first | rfl | (simp at hk; omega))
            clear hF hK hS5 e0 e1 e2 e3 e4 r0 r1 r2 r3 r4 g0 g1 g2 g3 g4
            generalize ((((wr.setCell ⟨br, 0, none⟩ (.slice AC j cC)).setCell ⟨br, 1, none⟩ (.slice AT q cT)).setCell ⟨br, 2, none⟩ (.slice AR q cR)).setCell ⟨br, 3, none⟩ (.slice AG q cG)).setCell ⟨br, 4, none⟩ (.slice AS q cS) = W9 at hF2 hC9 ⊢
            have r0 : W9.cell? ⟨br, 0, none⟩ = some (.slice AC j cC) := hF2.cellB 6 rfl 0 (by omega)
            have r1 : W9.cell? ⟨br, 1, none⟩ = some (.slice AT q cT) := hF2.cellB 6 rfl 1 (by omega)
            have r2 : W9.cell? ⟨br, 2, none⟩ = some (.slice AR q cR) := hF2.cellB 6 rfl 2 (by omega)
            have r3 : W9.cell? ⟨br, 3, none⟩ = some (.slice AG q cG) := hF2.cellB 6 rfl 3 (by omega)
            have r4 : W9.cell? ⟨br, 4, none⟩ = some (.slice AS q cS) := hF2.cellB 6 rfl 4 (by omega)
            have hS := HSS.out
            subst hS
            refine bodyPost_ret (v := .tuple #[.agg #[.slice AC j cC, .slice AT q cT, .slice AR q cR, .slice AG q cG, .slice AS q cS], .int .i64 0]) (by simp [results, Try.results8, go_sem, r0, r1, r2, r3, r4]) rfl ⟨_, rfl, ?_, hF2.bel⟩
            exact ⟨AC, AT, AR, AG, AS, cC, cT, cR, cG, cS, gG, rfl, hF2.rd1 4 rfl, hF2.rd1 0 rfl, hF2.rd1 1 rfl, hF2.rd1 2 rfl, hF2.rd1 3 rfl, fun i hi => by
              obtain ⟨A9, c9, e9, o9⟩ := hC9 i hi
              exact ⟨A9, c9, e9, o9.le.1, o9.le.2, o9.rd⟩⟩
set_option maxRecDepth 100000 in
set_option maxHeartbeats 1600000 in
theorem lg_bad (n : Int) (m cap : Nat) (A : Option Addr) (w : World) (hm : m ≤ maxLen) (hb : ¬ (1 ≤ n ∧ n ≤ 6 ∧ (m : Int) ≤ 60)) :
    Calls Try.prog 8 #[.int .i64 n, .slice A m cap] w fun e w' => e = .returned (.tuple #[.agg #[.slice none 0 0, .slice none 0 0, .slice none 0 0, .slice none 0 0, .slice none 0 0], .int .i64 1]) ∧ Below w.heap.size w w' := by
  unfold maxLen at hm
  have h' : n < 1 ∨ 6 < n ∨ 60 < (m : Int) := by omega
  clear hb
  go_enter Try.func8, Try.ntmps8
  go_wp2
  all_goals first
    | (exfalso; omega)
    | ((try simp only [Exit.inBlock, Exit.then]); refine bodyPost_ret (v := .tuple #[.agg #[.slice none 0 0, .slice none 0 0, .slice none 0 0, .slice none 0 0, .slice none 0 0], .int .i64 1]) (by simp [results, Try.results8, go_sem]) rfl ?_; exact ⟨rfl, (Below.refl _ _).alloc (Nat.le_refl _) _⟩)
end Go.Proofs.Ytfhmabpalimcnaa
