/- The walk of echo.Play. -/
import Derived.Test.YtcmbbioipbdonaaEc6
set_option linter.unusedVariables false
set_option linter.unusedSimpArgs false
namespace Go.Proofs.Ytcmbbioipbdonaa
open Go.RowKit

theorem sort_nat (l : List Nat) : sortI (l.map fun j : Nat => (j : Int)) = (l.mergeSort fun x y => decide (x ≤ y)).map fun j : Nat => (j : Int) := by
  unfold sortI
  symm
  refine List.map_mergeSort fun a _ b _ => ?_
  simp
theorem nearV_int (s : ES) (i : Nat) : nearV s i = ((s.near i).map fun j : Nat => (j : Int)).map (Value.int .i64) := by rw [List.map_map]; rfl
def bsK (p q : Nat → Nat) (m k : Nat) : ES := ⟨fun i => if i < k then nearS p q m i else nearK p q m i, [], fun i => if i < k then ((nearS p q m i).length : Nat) else 0, fun _ => -1, 0⟩
theorem bsK_next (p q : Nat → Nat) (m k : Nat) : (⟨upd (bsK p q m k).near k (nearS p q m k), [], upd (bsK p q m k).wait k ((nearS p q m k).length : Nat), fun _ => -1, 0⟩ : ES) = bsK p q m (k + 1) := by
  unfold bsK
  congr 1
  · funext i
    simp only [upd]
    by_cases h : i = k
    · rw [if_pos h, if_pos (by omega), h]
    · rw [if_neg h]
      by_cases h2 : i < k
      · rw [if_pos h2, if_pos (by omega)]
      · rw [if_neg h2, if_neg (by omega)]
  · funext i
    simp only [upd]
    by_cases h : i = k
    · rw [if_pos h, if_pos (by omega), h]
    · rw [if_neg h]
      by_cases h2 : i < k
      · rw [if_pos h2, if_pos (by omega)]
      · rw [if_neg h2, if_neg (by omega)]
theorem bsK_zero (p q : Nat → Nat) (m : Nat) : bs0 (nearK p q m) = bsK p q m 0 := by
  unfold bs0 bsK
  congr 1
theorem bsK_end {n m : Nat} {p q : Nat → Nat} (h : LkP n m p q) : bsK p q m n = ec0 p q m := by
  have hz : ∀ i, ¬ i < n → nearK p q m i = [] := fun i hi => by
    refine List.eq_nil_iff_forall_not_mem.2 fun x hx => ?_
    exact hi (nearS_at h ((nearS_mem i x).2 hx)).1
  have hs : ∀ i, ¬ i < n → nearS p q m i = [] := fun i hi => by
    unfold nearS; rw [hz i hi]; simp
  unfold bsK ec0
  congr 1
  · funext i
    by_cases hi : i < n
    · rw [if_pos hi]
    · rw [if_neg hi, hz i hi, hs i hi]
  · funext i
    by_cases hi : i < n
    · rw [if_pos hi]
    · rw [if_neg hi, hs i hi]; rfl
theorem code_cell {fc : Nat → Int} {j : Nat} {v : Int} (h : fc j = v) : ∀ t, t < 1 → (#[Value.int .i64 v])[t]? = some (.int .i64 (fc (j + t))) := by
  intro t ht
  obtain rfl : t = 0 := by omega
  rw [Nat.add_zero, h]; rfl
set_option maxRecDepth 100000 in
set_option maxHeartbeats 6400000 in
theorem play_good (n st : Nat) (A AO : Option Addr) (m cap mo co B : Nat) (p q : Nat → Nat) (o : Nat → Int) (w : World) (hm : m ≤ cap ∧ cap ≤ maxLen) (hmo : mo ≤ 60) (hB : B ≤ w.heap.size) (hr : Rd w B A (m * 2) (recF2 (fun i => (p i : Nat)) (fun i => (q i : Nat)))) (hro : Rd w B AO mo (fun j => .int .i64 (o j))) (h1 : 1 ≤ n) (hst : st < n) (hlk : LkP n m p q) :
    Calls Try.prog 6 #[.int .i64 (n : Nat), .slice A m cap, .int .i64 (st : Nat), .slice AO mo co] w (Gives fun v w' => ∃ AC cC gf cf, v = .tuple #[.agg #[.slice AC mo cC, .slice (some ⟨gf, 0, none⟩) n cf, .bool (decide ((ecE (ec1 p q m st) o mo).wait st = 0)), .int .i64 ((ecE (ec1 p q m st) o mo).sent : Nat)], .int .i64 0] ∧
      Lay w w' [lstE AC mo cC (ecC (ec1 p q m st) o), ⟨some ⟨gf, 0, none⟩, 3, 1, n, cf, fun i => .int .i64 (upd (ecE (ec1 p q m st) o mo).frm st (-1) i)⟩]) := by
  have hOk : LkOk (n : Nat) m (fun i => (p i : Nat)) (fun i => (q i : Nat)) (st : Nat) mo := by
    have h6 := hlk.h6
    have hm15 := hlk.hm
    refine ⟨⟨⟨by omega, by omega, hm15⟩, fun j hj => ?_⟩, fun i hi j hj hs => hlk.one i hi j hj ?_, ⟨by omega, by omega⟩, hmo⟩
    · have := hlk.at_ j hj
      show 0 ≤ ((p j : Nat) : Int) ∧ ((p j : Nat) : Int) < (n : Nat) ∧ 0 ≤ ((q j : Nat) : Int) ∧ ((q j : Nat) : Int) < (n : Nat) ∧ ((p j : Nat) : Int) ≠ ((q j : Nat) : Int)
      omega
    · have hs : ((p i : Nat) : Int) = (p j : Nat) ∧ ((q i : Nat) : Int) = (q j : Nat) ∨ ((p i : Nat) : Int) = (q j : Nat) ∧ ((q i : Nat) : Int) = (p j : Nat) := hs
      omega
  have h6 := hlk.h6
  have hm15 := hlk.hm
  have HR := Lib.hid hr; clear hr
  have HRO := Lib.hid hro; clear hro
  have HM := Lib.hid hm; clear hm
  have HN := Lib.hid hOk; clear hOk
  have HK := Lib.hid hlk; clear hlk
  obtain ⟨iE, hiE, hzE0, hzE1, hzE2⟩ := info_parts infoErrE
  obtain ⟨iO, hiO, hzO0, hzO1, hzO2⟩ := info_parts infoRowE
  obtain ⟨iI, hiI, hzI0, hzI1, hzI2⟩ := info_parts infoIntE
  have HL0 := Lib.hid ((Lay.nil w).newB [.slice none 0 0, .slice none 0 0, .bool false, .int .i64 0] 26 4 rfl w.heap.size rfl)
  go_enter Try.func6, Try.ntmps6
  go_wp2_with fail
  refine at_lay (F := fun W' => Calls _ _ _ W' _) HL0.out ?_
  intro W hW
  have HW := Lib.hid hW
  clear hW HL0
  generalize w.heap.size = be at HW ⊢
  refine (wrong_good HM.out (by unfold maxLen; omega) (Nat.le_trans hB HW.out.size) (HR.out.below (HW.out.bel.mono hB)) HN.out).mono ?_
  rintro e w1 ⟨v, rfl, rfl, hb⟩
  have H1 := Lib.hid (HW.out.keep hb)
  clear hb HW HN
  go_wp2_with fail
  refine wp_newF [0, 1, 2, 3, 4, 5, 6] [31, 32, 33, 34, 35, 36, 37] [7, 8, 9] 7 newEB (newE n w1.heap.size) (by kernel_rfl) (by kernel_rfl) (by kernel_rfl) (by decide) rfl (by kernel_rfl) (newE_keep n w1.heap.size) ?ext ?fin
  case ext =>
    intro i hi o ho a w2 hb hold hf
    simp only [List.mem_cons, List.not_mem_nil, or_false] at hi
    rcases hi with rfl | rfl | rfl | rfl | rfl | rfl | rfl
    all_goals cases ho
    · exact does_move _ rfl (eval_tmp (hold 0 (by decide)))
    · obtain ⟨g0, h0⟩ := hf 0 31 rfl rfl
      have h0 : a.tmps[31]?.getD undef = .int .i64 n := h0
      exact does_new (f := fun g => .slice (some ⟨g, 0, none⟩) n n) (nspec_mk _ _ rfl _ iO _ _ Try.underlying39 hiO hzO0 hzO1 hzO2 (eval_tmp h0) (by omega) (by omega)) true
    · exact does_move _ rfl (eval_tmp (hold 0 (by decide)))
    · obtain ⟨g0, h0⟩ := hf 2 33 rfl rfl
      have h0 : a.tmps[33]?.getD undef = .int .i64 n := h0
      exact does_new (f := fun g => .slice (some ⟨g, 0, none⟩) n n) (nspec_mk _ _ rfl _ iI _ _ Try.underlying23 hiI hzI0 hzI1 hzI2 (eval_tmp h0) (by omega) (by omega)) true
    · exact does_new (f := fun g => .slice (some ⟨g, 0, none⟩) 1 1) (ob := .cells #[.int .i64 (-1)] 3) (by go_simp) true
    · exact does_move _ rfl (eval_tmp (hold 0 (by decide)))
    · obtain ⟨g0, h0, hc0⟩ := hf 4 35 rfl rfl
      have h0 : a.tmps[35]?.getD undef = .slice (some ⟨g0, 0, none⟩) 1 1 := h0
      obtain ⟨g2, h2⟩ := hf 5 36 rfl rfl
      have h2 : a.tmps[36]?.getD undef = .int .i64 n := h2
      refine does_call (f := 12) (args := #[.slice (some ⟨g0, 0, none⟩) 1 1, .int .i64 n]) ?_ ((repI_any (-1) n h1 h6 ⟨g0, 0, none⟩ 1 w2 (by simp [World.cell?, hc0]) (Nat.le_refl _)).mono fun e w' ⟨v, h1, h2, h3⟩ => ⟨v, h1, h3.bel, w2.heap.size, ?_, fun _ => ⟨Nat.le_refl _, ?_⟩⟩)
      · go_simp
      · exact ⟨n, h2, (h3.own h6).base_le hb.size⟩
      · exact ((h3.own h6).lt _ rfl).2
  case fin =>
    intro y γ w2 hb hy hn2 hap
    have y0 : y 0 = .int .i64 n := hy 0 (by decide)
    obtain ⟨y1, o1⟩ := hy 1 (by decide)
    have y2 : y 2 = .int .i64 n := hy 2 (by decide)
    obtain ⟨y3, o3⟩ := hy 3 (by decide)
    obtain ⟨y4, o4⟩ := hy 4 (by decide)
    have y5 : y 5 = .int .i64 n := hy 5 (by decide)
    obtain ⟨cf, y6, o6⟩ := hy 6 (by decide)
    obtain ⟨l1, -⟩ := hn2 1 (by decide) rfl
    obtain ⟨l3, -⟩ := hn2 3 (by decide) rfl
    obtain ⟨l6, -⟩ := hn2 6 (by decide) rfl
    have n13 := hap 1 (by decide) 3 (by decide) (by decide) rfl rfl
    have n16 := hap 1 (by decide) 6 (by decide) (by decide) rfl rfl
    have n36 := hap 3 (by decide) 6 (by decide) (by decide) rfl rfl
    simp only [List.drop_succ_cons, List.drop_zero, List.zip_cons_cons, List.zip_nil_right, List.foldl_cons, List.foldl_nil, y0, y1, y2, y3, y4, y5, y6]
    simp only [Act.put, List.setIfInBounds_toArray, List.set_cons_zero, List.set_cons_succ]
    generalize γ 1 = gn at l1 o1 n13 n16 ⊢
    generalize γ 3 = gt at l3 o3 n13 n36 ⊢
    generalize γ 6 = gf at l6 o6 n16 n36 ⊢
    generalize γ 4 = gm at ⊢
    have HL : Hid (Lay w w2 ([arr gn 23 n (fun _ => .slice none 0 0), arr gt 3 n (fun _ => .int .i64 0), ⟨some ⟨gf, 0, none⟩, 3, 1, n, cf, fun _ => .int .i64 (-1)⟩] ++ [blkE be])) := Lib.hid (by
      refine H1.out.rows hb _ (fun r hr => ?_) (by simp [ablock]; omega)
      simp only [List.mem_cons, List.not_mem_nil, or_false] at hr
      rcases hr with rfl | rfl | rfl
      · exact ⟨H1.out.arr_at (z := .slice none 0 0) (n := n) rfl l1 o1 (by unfold maxLen; omega) (fun _ _ => rfl), gn, rfl, l1⟩
      · exact ⟨H1.out.arr_at (z := .int .i64 0) (n := n) rfl l3 o3 (by unfold maxLen; omega) (fun _ _ => rfl), gt, rfl, l3⟩
      · exact ⟨o6.base_le H1.out.size, gf, rfl, l6⟩)
    clear o1 o3 o4 o6 n13 n16 n36 l1 l3 l6 y0 y1 y2 y3 y4 y5 y6 hap hy hn2 hb H1
    have HL3 : Hid (∃ b, b = w2.heap.size ∧ LayW b gn n gt gf cf none 0 (fun _ => .slice none 0 0) [blkE be] w (bs0 (nearK p q 0)) (w2.alloc (.cells #[.slice (some ⟨gn, 0, none⟩) n n, .slice none 0 0, .slice (some ⟨gt, 0, none⟩) n n, .slice (some ⟨gf, 0, none⟩) n cf, .int .i64 0] 42))) :=
      Lib.hid ⟨_, rfl, ((HL.out.toM.toQ (fun _ : Nat => 3)).lnil 32 2 (wyF [])).newB [.slice (some ⟨gn, 0, none⟩) n n, .slice none 0 0, .slice (some ⟨gt, 0, none⟩) n n, .slice (some ⟨gf, 0, none⟩) n cf, .int .i64 0] 42 5 rfl _ rfl⟩
    go_wp2
    obtain ⟨b, hbe, hL⟩ := HL3.out
    rw [← hbe]
    have HL4 := Lib.hid hL
    clear hL HL3 HL hbe
    go_loopw [42] (fun i wr => ∃ (k : Nat) (fv : Nat → Value), k ≤ m ∧ i = .int .i64 (k : Nat) ∧ Hid (LayW b gn n gt gf cf none 0 fv [blkE be] w (bs0 (nearK p q k)) wr)) (fun i _ => m - (intOf i).toNat)
    case atStart => exact ⟨0, _, by omega, rfl, HL4⟩
    case round =>
      clear HL4
      obtain ⟨k, fv, hk, rfl, HL⟩ := hrel
      by_cases hlt : k < m
      · obtain ⟨ad, rfl, hbl, m0, m1⟩ := (HR.out.below (HL.out.lay.bel.mono hB)).rec2 hlt
        obtain ⟨hpn, hqn, hpq⟩ := HK.out.at_ k hlt
        have HH := Lib.hid (near_half (p := p) (q := q) hpq)
        have hNL := Nat.le_trans (nearK_len (p := p) (q := q) (p k) k) (show k ≤ 15 by omega)
        obtain ⟨x, hx⟩ : ∃ x, x = p k := ⟨_, rfl⟩
        obtain ⟨y, hy⟩ : ∃ y, y = q k := ⟨_, rfl⟩
        rw [← hx] at m0 hpn hpq HH hNL
        rw [← hy] at m1 hqn hpq HH
        clear hx hy
        have HQ := Lib.hid ((HL.out.newB [.int .i64 (x : Nat), .int .i64 (y : Nat)] 32 2 rfl _ rfl).rot5)
        go_wp2
        refine at_layQ (F := fun W' => Code.wp _ _ _ _ W') HQ.out ?_
        intro WW hW
        have HW : Hid (LayW b gn n gt gf cf none 0 fv [lkR wr.heap.size (x : Nat) (y : Nat), blkE be] w (bs0 (nearK p q k)) WW) := Lib.hid hW
        clear hW HQ HL m0 m1 hbl
        generalize wr.heap.size = ql at HW ⊢
        obtain ⟨S, hS⟩ : ∃ S, S = bs0 (nearK p q k) := ⟨_, rfl⟩
        have hNL : (S.near x).length ≤ 15 := by rw [hS]; exact hNL
        have HSS := Lib.hid hS
        rw [← hS] at HW
        clear hS
        have c0 := HW.out.lay.cellB 0 rfl 0 (by omega)
        have d0 := HW.out.lay.cellB 5 rfl 0 (by omega)
        have d1 := HW.out.lay.cellB 5 rfl 1 (by omega)
        have r := HW.out.lay.cell1 2 rfl (j := x) (by omega)
        simp only [ofL_0, ofL_1] at c0 d0 d1
        have hb0 := (HW.out.lay.at_ 0 rfl).2
        have hb5 := (HW.out.lay.at_ 5 rfl).2
        have hbn := (HW.out.lay.at_ 2 rfl).2
        obtain ⟨Aa, ca, hfa, hcl, hcm⟩ := HW.out.len x
        have hlen : (nearV S x).length = (S.near x).length := by simp
        rw [hlen] at hfa hcl
        rw [hfa] at r
        have HFA := Lib.hid hfa
        have HA := Lib.hid (HW.out.drew.alloc (.cells #[.int .i64 (y : Nat)] 3))
        have hsz := HA.out.size
        have HO : Hid (QSl (WW.drew.alloc (.cells #[.int .i64 (y : Nat)] 3)) w.heap.size 3 (.slice Aa (S.near x).length ca) (nearV S x)) := Lib.hid (by have := HA.out.own x; rw [HFA.out] at this; exact this)
        clear hfa hlen hcl hcm
        refine wp_held_mask (NrS b gn ql n x (x : Nat) (y : Nat) (.slice Aa (S.near x).length ca)) [true, true, true, true, true, true, true, true, true, true, true, true, true, true, true, true, false, false, false, false] ?A1 (by kernel_rfl) rfl (by kernel_rfl) (by repeat' (first | (with_reducible apply tame_then) | (with_reducible apply tame_block) | (with_reducible apply tame_scope) | exact tame_gives | exact tame_body (fun _ _ h => ⟨_, h.1⟩))) ⟨c0, d0, d1, r⟩ ?head1 ?tail1
        case head1 =>
          intro W5 ⟨s0, s1, s2, s3⟩
          simp only [pick]
          go_wp2
          exact taken
        case tail1 =>
          simp only [pick, List.map_cons, List.map_nil, Bool.not_true, Bool.not_false]
          refine tail_step ?_
          go_wp2
          refine holds ⟨(World.cell?_alloc_lt _ _ _ hb0).trans c0, (World.cell?_alloc_lt _ _ _ hb5).trans d0, (World.cell?_alloc_lt _ _ _ hb5).trans d1, (World.cell?_alloc_lt _ _ _ hbn).trans r⟩ ?_
          refine tail_step ?_
          have hnv : (nearV S x).length = (S.near x).length := by simp
          refine wpList_apQ rfl (.tmp 59) (.tmp 62) _ rfl 3 iI _ 8 Try.underlying23 hiI hzI0 hzI1 hzI2 rfl w.heap.size rfl HO.out (X := ⟨WW.drew.heap.size, 0, none⟩) rfl (cell_one WW.drew _ _) rfl ((S.near x).length + 1) (by rw [hnv]) (by rw [hnv]; unfold maxLen; omega) (by rw [hnv]; omega) hsz ?_
          intro A2 c2 w5 hq5 hg5 hb5'
          have hg6 : (WW.drew.alloc (.cells #[.int .i64 (y : Nat)] 3)).grownBy w5 (fv x).ownBlock := by rw [HFA.out, own_ab]; exact hg5
          have hb6 : (Value.slice A2 ((S.near x).length + 1) c2).ownBlock = (fv x).ownBlock ∨ (Value.slice A2 ((S.near x).length + 1) c2).ownBlock = some (WW.drew.alloc (.cells #[.int .i64 (y : Nat)] 3)).heap.size := by rw [HFA.out, own_ab, own_ab]; exact hb5'
          have HP := Lib.hid (HA.out.push x hq5 hg6 hb6)
          have HN1 := Lib.hid (LayW.near1 HA.out (a := x) (x := y) (by omega) hq5 hg6 hb6)
          have e0 := HP.out.lay.cellB 0 rfl 0 (by omega)
          have e1 := HP.out.lay.cellB 5 rfl 0 (by omega)
          have e2 := HP.out.lay.cellB 5 rfl 1 (by omega)
          have e3 := (HP.out.lay.cell1 2 rfl (j := x) (by omega)).trans (congrArg some HFA.out)
          have z3 := HP.out.lay.frz 2 rfl (by omega) x
          simp only [ofL_0, ofL_1] at e0 e1 e2
          clear hq5 hg5 hb5' hg6 hb6 HO HA HP HFA hnv c0 d0 d1 r hb0 hb5 hbn hsz
          go_wp2
          refine holds ⟨e0, e1, e2, e3⟩ ?_
          refine tail_step ?_
          go_wp2
          refine holds ⟨e0, e1, e2, e3⟩ ?_
          refine tail_last ?_
          go_wp2
          clear e0 e1 e2 e3 z3
          obtain ⟨S1, hS1⟩ : ∃ S1, S1 = ({ S with near := upd S.near x (S.near x ++ [y]) } : ES) := ⟨_, rfl⟩
          rw [← hS1] at HN1
          have hNL2 : (S1.near y).length ≤ 15 := by
            rw [hS1]
            show (upd S.near x (S.near x ++ [y]) y).length ≤ 15
            rw [upd_ne _ _ (fun e => hpq e.symm), HSS.out]
            exact Nat.le_trans (nearK_len (p := p) (q := q) y k) (by omega)
          have HFIN : Hid ({ S1 with near := upd S1.near y (S1.near y ++ [x]) } = bs0 (nearK p q (k + 1))) := Lib.hid (by
            rw [hS1, HSS.out]
            show (⟨upd (upd (nearK p q k) x (nearK p q k x ++ [y])) y (upd (nearK p q k) x (nearK p q k x ++ [y]) y ++ [x]), [], fun _ => 0, fun _ => -1, 0⟩ : ES) = _
            rw [HH.out]; rfl)
          clear hS1 HSS HH hNL
          refine at_layQ (F := fun W' => Code.wp _ _ _ _ W') HN1.out ?_
          intro WX hW
          have HW : Hid (LayW b gn n gt gf cf none 0 (upd fv x (.slice A2 ((S.near x).length + 1) c2)) [lkR ql (x : Nat) (y : Nat), blkE be] w S1 WX) := Lib.hid hW
          clear hW HN1
          generalize upd fv x (.slice A2 ((S.near x).length + 1) c2) = fw at HW
          have hNL := hNL2
          have c0 := HW.out.lay.cellB 0 rfl 0 (by omega)
          have d0 := HW.out.lay.cellB 5 rfl 0 (by omega)
          have d1 := HW.out.lay.cellB 5 rfl 1 (by omega)
          have r := HW.out.lay.cell1 2 rfl (j := y) (by omega)
          simp only [ofL_0, ofL_1] at c0 d0 d1
          have hb0 := (HW.out.lay.at_ 0 rfl).2
          have hb5 := (HW.out.lay.at_ 5 rfl).2
          have hbn := (HW.out.lay.at_ 2 rfl).2
          obtain ⟨Aa, ca, hfa, hcl, hcm⟩ := HW.out.len y
          have hlen : (nearV S1 y).length = (S1.near y).length := by simp
          rw [hlen] at hfa hcl
          rw [hfa] at r
          have HFA := Lib.hid hfa
          have HA := Lib.hid (HW.out.drew.alloc (.cells #[.int .i64 (x : Nat)] 3))
          have hsz := HA.out.size
          have HO : Hid (QSl (WX.drew.alloc (.cells #[.int .i64 (x : Nat)] 3)) w.heap.size 3 (.slice Aa (S1.near y).length ca) (nearV S1 y)) := Lib.hid (by have := HA.out.own y; rw [HFA.out] at this; exact this)
          clear hfa hlen hcl hcm
          refine wp_held_mask (NrS b gn ql n y (x : Nat) (y : Nat) (.slice Aa (S1.near y).length ca)) [true, true, true, true, true, true, true, true, true, true, true, true, true, true, true, true, false, false, false, false] ?A2 (by kernel_rfl) rfl (by kernel_rfl) (by repeat' (first | (with_reducible apply tame_then) | (with_reducible apply tame_block) | (with_reducible apply tame_scope) | exact tame_gives | exact tame_body (fun _ _ h => ⟨_, h.1⟩))) ⟨c0, d0, d1, r⟩ ?head2 ?tail2
          case head2 =>
            intro W5 ⟨s0, s1, s2, s3⟩
            simp only [pick]
            go_wp2
            exact taken
          case tail2 =>
            simp only [pick, List.map_cons, List.map_nil, Bool.not_true, Bool.not_false]
            refine tail_step ?_
            go_wp2
            refine holds ⟨(World.cell?_alloc_lt _ _ _ hb0).trans c0, (World.cell?_alloc_lt _ _ _ hb5).trans d0, (World.cell?_alloc_lt _ _ _ hb5).trans d1, (World.cell?_alloc_lt _ _ _ hbn).trans r⟩ ?_
            refine tail_step ?_
            have hnv : (nearV S1 y).length = (S1.near y).length := by simp
            refine wpList_apQ rfl (.tmp 78) (.tmp 81) _ rfl 3 iI _ 8 Try.underlying23 hiI hzI0 hzI1 hzI2 rfl w.heap.size rfl HO.out (X := ⟨WX.drew.heap.size, 0, none⟩) rfl (cell_one WX.drew _ _) rfl ((S1.near y).length + 1) (by rw [hnv]) (by rw [hnv]; unfold maxLen; omega) (by rw [hnv]; omega) hsz ?_
            intro A2 c2 w5 hq5 hg5 hb5'
            have hg6 : (WX.drew.alloc (.cells #[.int .i64 (x : Nat)] 3)).grownBy w5 (fw y).ownBlock := by rw [HFA.out, own_ab]; exact hg5
            have hb6 : (Value.slice A2 ((S1.near y).length + 1) c2).ownBlock = (fw y).ownBlock ∨ (Value.slice A2 ((S1.near y).length + 1) c2).ownBlock = some (WX.drew.alloc (.cells #[.int .i64 (x : Nat)] 3)).heap.size := by rw [HFA.out, own_ab, own_ab]; exact hb5'
            have HP := Lib.hid (HA.out.push y hq5 hg6 hb6)
            have HN1 := Lib.hid (LayW.near1 HA.out (a := y) (x := x) (by omega) hq5 hg6 hb6)
            have e0 := HP.out.lay.cellB 0 rfl 0 (by omega)
            have e1 := HP.out.lay.cellB 5 rfl 0 (by omega)
            have e2 := HP.out.lay.cellB 5 rfl 1 (by omega)
            have e3 := (HP.out.lay.cell1 2 rfl (j := y) (by omega)).trans (congrArg some HFA.out)
            have z3 := HP.out.lay.frz 2 rfl (by omega) y
            simp only [ofL_0, ofL_1] at e0 e1 e2
            clear hq5 hg5 hb5' hg6 hb6 HO HA HP HFA hnv c0 d0 d1 r hb0 hb5 hbn hsz
            go_wp2
            refine holds ⟨e0, e1, e2, e3⟩ ?_
            refine tail_step ?_
            go_wp2
            refine holds ⟨e0, e1, e2, e3⟩ ?_
            refine tail_last ?_
            go_wp2
            clear e0 e1 e2 e3 z3
            go_roundw
            case rel => exact ⟨k + 1, _, by omega, by go_num, Lib.hid (by have h3 := HN1.out; rw [HFIN.out] at h3; exact LayQ.drop5 h3)⟩
            case measure => simp [intOf]; omega
      · obtain rfl : k = m := by omega
        have HL5 : Hid (LayW b gn n gt gf cf none 0 fv [blkE be] w (bsK p q k 0) wr) := Lib.hid (by rw [← bsK_zero]; exact HL.out)
        obtain ⟨m, rfl⟩ : ∃ m, m = k := ⟨_, rfl⟩
        have c0 := HL.out.lay.cellB 0 rfl 0 (by omega)
        simp only [ofL_0] at c0
        clear HL
        go_wp2
        clear c0
        go_loopw [90] (fun i wr => ∃ (k : Nat), k ≤ n ∧ i = .int .i64 (k : Nat) ∧ Hid (LayW b gn n gt gf cf none 0 fv [blkE be] w (bsK p q m k) wr)) (fun i _ => n - (intOf i).toNat)
        case atStart => exact ⟨0, by omega, rfl, HL5⟩
        case round =>
          clear HL5
          obtain ⟨k, hk, rfl, HL⟩ := hrel
          by_cases hlt : k < n
          · obtain ⟨Ak, ck, hfa, hcl, hcm⟩ := HL.out.len k
            have hnk : (bsK p q m k).near k = nearK p q m k := if_neg (by omega)
            have hlen : (nearV (bsK p q m k) k).length = (nearS p q m k).length := by rw [List.length_map, hnk, nearS_len]
            rw [hlen] at hfa
            have r := (HL.out.lay.cell1 2 rfl (j := k) hlt).trans (congrArg some hfa)
            have hS := sort_own HL.out k _ (nearV_int (bsK p q m k) k) (by rw [List.length_map, hnk]; have := nearK_len (p := p) (q := q) k m; omega)
            rw [hfa, hnk, sort_nat] at hS
            have HS := Lib.hid hS
            clear hS hfa hcl hcm hlen
            have hl15 : (nearS p q m k).length ≤ 15 := by rw [nearS_len]; exact Nat.le_trans (nearK_len (p := p) (q := q) k m) hm15
            go_wp2_with (first | (go_at_call 13; refine HS.out.mono ?_; rintro e w6 ⟨rfl, h6⟩; have HX := Lib.hid h6; clear h6; have c2 := HX.out.lay.cellB 0 rfl 2 (by omega); have r3 := HX.out.lay.cell1 3 rfl (j := k) hlt; have z3 := HX.out.lay.frz 3 rfl (by omega) k; simp only [ofL_2] at c2) | fail)
            go_roundw
            case rel =>
              refine ⟨k + 1, by omega, by go_num, Lib.hid ?_⟩
              have h7 := (HX.out.upd (mk := fun x : Int => Value.int .i64 x) 3 ((nearS p q m k).length : Int) rfl hlt).sameQ (q' := nearV ⟨upd (bsK p q m k).near k (nearS p q m k), [], upd (bsK p q m k).wait k ((nearS p q m k).length : Nat), fun _ => -1, 0⟩) (fun i => ?_)
              · rw [← bsK_next]; exact h7
              · show (upd (bsK p q m k).near k (nearS p q m k) i).map _ = _
                unfold upd qput
                split
                · rw [List.map_map]; rfl
                · rfl
            case measure => simp [intOf]; omega
          · obtain rfl : n = k := by omega
            rw [bsK_end HK.out] at HL
            have c0 := HL.out.lay.cellB 0 rfl 0 (by omega)
            have c3 := HL.out.lay.cellB 0 rfl 3 (by omega)
            have r4 := HL.out.lay.cell1 4 rfl (j := st) hst
            have z4 := HL.out.lay.frz 4 rfl (by omega) st
            have n04 := HL.out.lay.ne_ 0 4 rfl rfl (by decide)
            have n24 := HL.out.lay.ne_ 2 4 rfl rfl (by decide)
            obtain ⟨Ak, ck, hfa, hcl, hcm⟩ := HL.out.len st
            have hlen : (nearV (ec0 p q m) st).length = (nearS p q m st).length := List.length_map _
            rw [hlen] at hfa
            have r2 := (HL.out.lay.cell1 2 rfl (j := st) hst).trans (congrArg some hfa)
            simp only [ofL_0, ofL_3] at c0 c3
            obtain ⟨E0, hE0⟩ : ∃ E0, E0 = ({ ec0 p q m with frm := upd (fun _ => -1) st (-2) } : ES) := ⟨_, rfl⟩
            have H2 : Hid (LayW b gn n gt gf cf none 0 fv [blkE be] w E0 (wr.setCell ⟨gf, st, none⟩ (.int .i64 (-2)))) := Lib.hid (by rw [hE0]; exact HL.out.upd 4 (-2 : Int) rfl hst)
            obtain ⟨NL, hNL⟩ : ∃ NL, NL = nearS p q m st := ⟨_, rfl⟩
            have hE1 : E0.near st = NL := by rw [hE0, hNL]; rfl
            have hE2 : E0.way = [] := by rw [hE0]; rfl
            have hE3 : E0.sent = 0 := by rw [hE0]; rfl
            have HS1 : Hid (sends st NL E0 = ec1 p q m st) := Lib.hid (by rw [hE0, hNL]; rfl)
            have hl15 : NL.length ≤ 15 := by rw [hNL, nearS_len]; exact Nat.le_trans (nearK_len (p := p) (q := q) st m) hm15
            rw [← hNL] at r2 hfa
            have HE1 := Lib.hid hE1
            have HE2 := Lib.hid hE2
            have HE3 := Lib.hid hE3
            have HFA := Lib.hid hfa
            clear hfa hcl hcm hlen hE0 hNL hE1 hE2 hE3 HL
            obtain ⟨L, hL⟩ : ∃ L, L = NL.length := ⟨_, rfl⟩
            rw [← hL] at r2 hl15
            have HLL := Lib.hid hL
            clear hL
            go_wp2
            clear c0 c3 r4 z4 n04 n24 r2
            go_loopw [120] (fun i wr => ∃ (k : Nat) (A' : Option Addr) (cap' : Nat), k ≤ L ∧ i = .int .i64 (k : Nat) ∧ Hid (LayW b gn n gt gf cf A' cap' fv [blkE be] w (sends st (NL.take k) E0) wr)) (fun i _ => L - (intOf i).toNat)
            case atStart => exact ⟨0, none, 0, by omega, rfl, Lib.hid (by rw [List.take_zero, sends_nil]; exact H2.out)⟩
            case round =>
              clear H2
              obtain ⟨k, A2, cap2, hk, rfl, HL⟩ := hrel
              by_cases hlt : k < L
              · have hx2 : NL[k]? = some (NL[k]'(by rw [← HLL.out]; exact hlt)) := List.getElem?_eq_getElem _
                have hx3 : NL.take (k + 1) = NL.take k ++ [NL[k]'(by rw [← HLL.out]; exact hlt)] := List.take_succ_eq_append_getElem _
                generalize NL[k]'(by rw [← HLL.out]; exact hlt) = x at hx2 hx3
                have hx : (nearV (sends st (NL.take k) E0) st)[k]? = some (.int .i64 ((x : Nat) : Int)) := by
                  show ((E0.near st).map _)[k]? = _
                  rw [HE1.out, List.getElem?_map, hx2]; rfl
                have HX3 := Lib.hid hx3
                have hown := HL.out.own st
                rw [HFA.out, ← HLL.out] at hown
                obtain ⟨gN, oN, rfl, hgN, hcN⟩ := hown.cell hx
                have htl : (NL.take k).length ≤ 15 := by rw [List.length_take]; omega
                clear hown hx hx2 hx3
                go_wp2_with (first | (go_at_call 14; refine (send_any b gn n gt gf cf A2 cap2 fv [blkE be] w (sends st (NL.take k) E0) _ st x (by show (E0.way ++ List.map _ _).length ≤ 5000; rw [HE2.out, List.nil_append, List.length_map]; omega) (by show E0.sent + _ ≤ 5000; rw [HE3.out]; omega) HL.out).mono ?_; rintro e w6 ⟨rfl, A6, c6, h6⟩) | fail)
                go_roundw
                case rel => exact ⟨k + 1, A6, c6, by omega, by go_num, Lib.hid (by rw [HX3.out, ← sends_sends]; exact h6)⟩
                case measure => simp [intOf]; omega
              · obtain rfl : L = k := by omega
                rw [HLL.out, List.take_length, HS1.out] at HL
                have HL6 := Lib.hid ((HL.out.lnil 27 1 (fun k => .int .i64 (ecC (ec1 p q m st) o k))).rot5)
                clear HE1 HE2 HE3 HFA HS1 HLL
                have HWB := Lib.hid (WBd.all HK.out hst o)
                obtain ⟨s1, hs1⟩ : ∃ s1, s1 = ec1 p q m st := ⟨_, rfl⟩
                rw [← hs1] at HL6 HWB
                go_wp2
                clear HL
                go_loopw [18, 131] (fun cs i wr => ∃ (j : Nat) (A' : Option Addr) (cap' : Nat) (AC : Option Addr) (cC : Nat), j ≤ mo ∧ i = .int .i64 (j : Nat) ∧ cs = .slice AC j cC ∧ Hid (LayW b gn n gt gf cf A' cap' fv [lstE AC j cC (ecC s1 o), blkE be] w (ecE s1 o j) wr)) (fun _ i _ => mo - (intOf i).toNat)
                case atStart => exact ⟨0, A2, cap2, none, 0, by omega, rfl, rfl, HL6⟩
                case round =>
                  clear HL6
                  obtain ⟨j, A3, cap3, AC, cC, hj, rfl, rfl, HL⟩ := hrel
                  by_cases hlt : j < mo
                  · obtain ⟨adO, rfl, hbO, hcO⟩ := (HRO.out.below (HL.out.lay.bel.mono hB)) (by omega)
                    have hcj : wr.cell? (adO.add j) = some (.int .i64 (o j)) := hcO j hlt
                    have HB := Lib.hid (HWB.out j)
                    obtain ⟨S, hS⟩ : ∃ S, S = ecE s1 o j := ⟨_, rfl⟩
                    have HNX : Hid (ecE s1 o (j + 1) = (stepS (o j) S).2) := Lib.hid (by rw [hS]; rfl)
                    have HCX : Hid (ecC s1 o j = (stepS (o j) S).1) := Lib.hid (by rw [hS]; rfl)
                    rw [← hS] at HL HB
                    obtain ⟨x, hx⟩ : ∃ x, x = o j := ⟨_, rfl⟩
                    rw [← hx] at hcj HNX HCX
                    clear hS hx hcO
                    have hway := HB.out.way
                    have hsent := HB.out.sent
                    have c1 := HL.out.lay.cellB 0 rfl 1 (by omega)
                    simp only [ofL_1] at c1
                    by_cases hx : 0 ≤ x ∧ x.toNat < S.way.length
                    · obtain ⟨hx0, hxl⟩ := hx
                      obtain ⟨K, rfl⟩ := Int.eq_ofNat_of_zero_le hx0
                      have hK : K < S.way.length := by simpa using hxl
                      clear hx0 hxl
                      obtain ⟨gw, rfl, -⟩ := (HL.out.lay.own 1 _ rfl).pos (by show 0 < S.way.length; omega)
                      have e0 := HL.out.lay.cell 1 rfl (j := K * 2) (by omega)
                      have e1 := HL.out.lay.cell 1 rfl (j := K * 2 + 1) (by omega)
                      rw [wyF_0] at e0
                      rw [wyF_1] at e1
                      obtain ⟨hfn, htn⟩ := HB.out.mem _ (getD_mem hK)
                      have hst2 : stepS (K : Nat) S = (0, takeS (S.way.getD K (0, 0)).1 (S.way.getD K (0, 0)).2 (pull K S)) := if_pos ⟨by omega, by simpa using hK⟩
                      rw [hst2] at HNX HCX
                      generalize (S.way.getD K (0, 0)).1 = fa at e0 hfn HNX
                      generalize (S.way.getD K (0, 0)).2 = tb at e1 htn HNX
                      obtain ⟨mm, hmm⟩ : ∃ mm, mm + 1 = S.way.length := ⟨S.way.length - 1, by omega⟩
                      have hel : mm = (pull K S).way.length := by show mm = (S.way.eraseIdx K).length; rw [List.length_eraseIdx, if_pos hK]; omega
                      have hTK : TakeOk n tb (pull K S) := by
                        have h8 := HB.out.w0 tb
                        have h9 := HB.out.w1 tb
                        refine ⟨htn, by rw [← hel]; omega, by show S.sent ≤ 4000; omega, HB.out.len tb, ?_, ?_⟩
                        · show -1000 ≤ S.wait tb; omega
                        · show S.wait tb ≤ 1000; omega
                      have HTK := Lib.hid hTK
                      have HEL := Lib.hid hel
                      clear hst2 hTK hel
                      have HQ := Lib.hid ((HL.out.newB [.int .i64 (fa : Nat), .int .i64 (tb : Nat)] 32 2 rfl _ rfl).rot5)
                      have hgw := (HL.out.lay.at_ 1 rfl).2
                      have hgb := (HL.out.lay.at_ 0 rfl).2
                      go_wp2_with fail
                      refine at_layQ (F := fun W' => Calls _ _ _ W' _) HQ.out ?_
                      intro WW hW
                      have HW : Hid (LayW b gn n gt gf cf (some ⟨gw, 0, none⟩) cap3 fv [lkR wr.heap.size (fa : Nat) (tb : Nat), lstE AC j cC (ecC s1 o), blkE be] w S WW) := Lib.hid hW
                      clear hW HQ HL e0 e1 c1 hgw hgb hbO
                      generalize wr.heap.size = ql at HW ⊢
                      have hO1 : Own WW w.heap.size 32 2 (some ⟨gw, 0, none⟩) (mm + 1) cap3 (wyF S.way) := by rw [hmm]; exact HW.out.lay.own 1 _ rfl
                      have hdel := del_any S.way K mm gw cap3 w.heap.size WW hmm (by omega) (by omega) hO1
                      rw [hmm] at hdel
                      refine hdel.mono ?_
                      clear hdel hO1
                      rintro e w5 ⟨v, rfl, rfl, ho5, hg5⟩
                      have H5 := Lib.hid (HW.out.app 1 rfl ho5 hg5 (.inl rfl))
                      clear ho5 hg5
                      have d1 := H5.out.lay.cellB 0 rfl 1 (by omega)
                      have z1 := H5.out.lay.frz 0 rfl (by omega) 1
                      have q0 := H5.out.lay.cellB 5 rfl 0 (by omega)
                      have q1 := H5.out.lay.cellB 5 rfl 1 (by omega)
                      have nbq := H5.out.lay.ne_ 0 5 rfl rfl (by decide)
                      simp only [ofL_0, ofL_1] at d1 q0 q1
                      have H6 : Hid (LayW b gn n gt gf cf (some ⟨gw, 0, none⟩) cap3 fv [lkR ql (fa : Nat) (tb : Nat), lstE AC j cC (ecC s1 o), blkE be] w (pull K S) (w5.setCell ⟨b, 1, none⟩ (.slice (some ⟨gw, 0, none⟩) mm cap3))) := Lib.hid (by
                        have h0 := H5.out
                        rw [HEL.out] at h0 ⊢
                        exact h0.fld 0 1 (.slice (some ⟨gw, 0, none⟩) (pull K S).way.length cap3) rfl (by omega) (by simp))
                      clear HW
                      go_wp2_with fail
                      refine (take_any b gn n gt gf cf (some ⟨gw, 0, none⟩) cap3 fv _ w (pull K S) _ fa tb HTK.out H6.out).mono ?_
                      rintro e w7 ⟨rfl, A7, c7, h7⟩
                      have H7 := Lib.hid h7
                      clear h7 H5 H6 d1 z1 q0 q1 nbq
                      go_wp2_with (first
                        | (fail)
                        | (at_builtin; refine wpList_ap1 rfl (.tmp 173) (.tmp 174) _ rfl 27 iE _ 8 Try.underlying24 hiE hzE0 hzE1 hzE2 rfl w.heap.size (n := j) rfl ((H7.out.alloc _).lay.own 6 _ rfl) (B := w7.heap.size + 1) (m := 1) (g := fun t => .int .i64 (ecC s1 o (j + t))) rfl (cell_new w7 _ _ _ w7.heap.size rfl (code_cell HCX.out)) (fun _ _ => rfl) (fun i => .int .i64 (ecC s1 o i)) (fun _ _ => rfl) (fun _ _ => rfl) (j + 1) rfl (by unfold maxLen; omega) (by omega) (by have := H7.out.size; simp; omega) ?_
                           intro A4 c4 w4 ho4 hg4 ha4
                           have HL9 := Lib.hid ((H7.out.alloc (.cells #[.int .i64 0] 27)).app 6 rfl ho4 hg4 ha4)
                           clear ho4 hg4 ha4)
                        | fail)
                      go_roundw
                      case rel => exact ⟨j + 1, A7, c7, A4, c4, by omega, by go_num, rfl, Lib.hid (by rw [HNX.out]; exact LayQ.drop5 HL9.out)⟩
                      case measure => simp [intOf]; omega
                    · have hst2 : stepS x S = (4, S) := if_neg hx
                      rw [hst2] at HNX HCX
                      clear hst2
                      have hz : x < 0 ∨ (S.way.length : Int) ≤ x := by omega
                      clear hx
                      rcases hz with hz | hz
                      · go_wp2_with (first
                          | (fail)
                          | (at_builtin; refine wpList_ap1 rfl (.tmp 146) (.tmp 147) _ rfl 27 iE _ 8 Try.underlying24 hiE hzE0 hzE1 hzE2 rfl w.heap.size (n := j) rfl ((HL.out.alloc _).lay.own 5 _ rfl) (B := wr.heap.size + 1) (m := 1) (g := fun t => .int .i64 (ecC s1 o (j + t))) rfl (cell_new wr _ _ _ wr.heap.size rfl (code_cell HCX.out)) (fun _ _ => rfl) (fun i => .int .i64 (ecC s1 o i)) (fun _ _ => rfl) (fun _ _ => rfl) (j + 1) rfl (by unfold maxLen; omega) (by omega) (by have := HL.out.size; simp; omega) ?_
                             intro A4 c4 w4 ho4 hg4 ha4
                             have HL9 := Lib.hid ((HL.out.alloc (.cells #[.int .i64 4] 27)).app 5 rfl ho4 hg4 ha4)
                             clear ho4 hg4 ha4)
                          | fail)
                        go_roundw
                        case rel => exact ⟨j + 1, A3, cap3, A4, c4, by omega, by go_num, rfl, Lib.hid (by rw [HNX.out]; exact HL9.out)⟩
                        case measure => simp [intOf]; omega
                      · by_cases hz2 : x < 0
                        · omega
                        · go_wp2_with (first
                            | (fail)
                            | (at_builtin; refine wpList_ap1 rfl (.tmp 146) (.tmp 147) _ rfl 27 iE _ 8 Try.underlying24 hiE hzE0 hzE1 hzE2 rfl w.heap.size (n := j) rfl ((HL.out.alloc _).lay.own 5 _ rfl) (B := wr.heap.size + 1) (m := 1) (g := fun t => .int .i64 (ecC s1 o (j + t))) rfl (cell_new wr _ _ _ wr.heap.size rfl (code_cell HCX.out)) (fun _ _ => rfl) (fun i => .int .i64 (ecC s1 o i)) (fun _ _ => rfl) (fun _ _ => rfl) (j + 1) rfl (by unfold maxLen; omega) (by omega) (by have := HL.out.size; simp; omega) ?_
                               intro A4 c4 w4 ho4 hg4 ha4
                               have HL9 := Lib.hid ((HL.out.alloc (.cells #[.int .i64 4] 27)).app 5 rfl ho4 hg4 ha4)
                               clear ho4 hg4 ha4)
                            | fail)
                          go_roundw
                          case rel => exact ⟨j + 1, A3, cap3, A4, c4, by omega, by go_num, rfl, Lib.hid (by rw [HNX.out]; exact HL9.out)⟩
                          case measure => simp [intOf]; omega
                  · obtain rfl : mo = j := by omega
                    obtain ⟨S, hS⟩ : ∃ S, S = ecE s1 o mo := ⟨_, rfl⟩
                    have HSS : Hid (ecE (ec1 p q m st) o mo = S) := Lib.hid (by rw [hS, hs1])
                    have HCC : Hid (ecC (ec1 p q m st) o = ecC s1 o) := Lib.hid (by rw [hs1])
                    rw [← hS] at HL
                    clear hS hs1 HWB
                    have c2 := HL.out.lay.cellB 0 rfl 2 (by omega)
                    have c3 := HL.out.lay.cellB 0 rfl 3 (by omega)
                    have c4 := HL.out.lay.cellB 0 rfl 4 (by omega)
                    have r3 := HL.out.lay.cell1 3 rfl (j := st) hst
                    have r4 := HL.out.lay.cell1 4 rfl (j := st) hst
                    have z4 := HL.out.lay.frz 4 rfl (by omega) st
                    simp only [ofL_2, ofL_3, ofL_4] at c2 c3 c4
                    have n04 := HL.out.lay.ne_ 0 4 rfl rfl (by decide)
                    have n34 := HL.out.lay.ne_ 3 4 rfl rfl (by decide)
                    have H2 := Lib.hid (HL.out.upd 4 (-1 : Int) rfl hst)
                    go_wp2
                    refine at_layQ (F := fun W' => Code.wp _ _ _ _ W') H2.out ?_
                    intro WW hW
                    have HW := Lib.hid hW
                    clear hW HL H2 c2 c3 c4 r3 r4 z4 n04 n34
                    have c0 : WW.cell? ⟨b, 2, none⟩ = _ := HW.out.lay.cellB 0 rfl 2 (by omega)
                    have c3 : WW.cell? ⟨b, 3, none⟩ = _ := HW.out.lay.cellB 0 rfl 3 (by omega)
                    have c4 : WW.cell? ⟨b, 4, none⟩ = _ := HW.out.lay.cellB 0 rfl 4 (by omega)
                    have r3 := HW.out.lay.cell1 3 rfl (j := st) hst
                    have q0 := HW.out.lay.cellB 6 rfl 0 (by omega)
                    have q1 := HW.out.lay.cellB 6 rfl 1 (by omega)
                    have q2 := HW.out.lay.cellB 6 rfl 2 (by omega)
                    have q3 := HW.out.lay.cellB 6 rfl 3 (by omega)
                    have f0 := HW.out.lay.frz 6 rfl (by omega) 0
                    have f1 := HW.out.lay.frz 6 rfl (by omega) 1
                    have f2 := HW.out.lay.frz 6 rfl (by omega) 2
                    have f3 := HW.out.lay.frz 6 rfl (by omega) 3
                    simp only [ofL_0, ofL_1, ofL_2, ofL_3, ofL_4] at c0 c3 c4 q0 q1 q2 q3
                    have HF := Lib.hid ((((HW.out.fld 6 0 (.slice AC mo cC) rfl (by omega) (by simp)).fld 6 1 (.slice (some ⟨gf, 0, none⟩) n cf) rfl (by omega) (by simp)).fld 6 2 (.bool (S.wait st == 0)) rfl (by omega) (by simp)).fld 6 3 (.int .i64 (S.sent : Nat)) rfl (by omega) (by simp)).drew
                    refine wp_text 17 (by kernel_rfl) (by kernel_rfl) (by kernel_rfl) (by repeat' (first | (with_reducible apply tame_then) | (with_reducible apply tame_block) | (with_reducible apply tame_scope) | exact tame_gives | exact tame_body (fun _ _ h => ⟨_, h.1⟩))) ?_
                    simp only [List.take_succ_cons, List.take_zero, List.drop_succ_cons, List.drop_zero]
                    go_wp2
                    refine headed ?_
                    go_wp2
                    have HF2 := HF.out
                    clear c0 c3 c4 r3 q0 q1 q2 q3 f0 f1 f2 f3 HF HW
                    generalize (((((WW.setCell ⟨be, 0, none⟩ (.slice AC mo cC)).setCell ⟨be, 1, none⟩ (.slice (some ⟨gf, 0, none⟩) n cf)).setCell ⟨be, 2, none⟩ (.bool (S.wait st == 0))).setCell ⟨be, 3, none⟩ (.int .i64 (S.sent : Nat))).drew) = W8 at HF2 ⊢
                    have r0 : W8.cell? ⟨be, 0, none⟩ = some (.slice AC mo cC) := HF2.lay.cellB 6 rfl 0 (by omega)
                    have r1 : W8.cell? ⟨be, 1, none⟩ = some (.slice (some ⟨gf, 0, none⟩) n cf) := HF2.lay.cellB 6 rfl 1 (by omega)
                    have r2 : W8.cell? ⟨be, 2, none⟩ = some (.bool (S.wait st == 0)) := HF2.lay.cellB 6 rfl 2 (by omega)
                    have r3 : W8.cell? ⟨be, 3, none⟩ = some (.int .i64 (S.sent : Nat)) := HF2.lay.cellB 6 rfl 3 (by omega)
                    refine bodyPost_ret (v := .tuple #[.agg #[.slice AC mo cC, .slice (some ⟨gf, 0, none⟩) n cf, .bool (S.wait st == 0), .int .i64 (S.sent : Nat)], .int .i64 0]) (by simp [results, Try.results6, go_sem, r0, r1, r2, r3]) rfl ⟨_, rfl, AC, cC, gf, cf, ?_, ?_⟩
                    · rw [HSS.out]
                      have hbq : (S.wait st == 0) = decide (S.wait st = 0) := by by_cases h : S.wait st = 0 <;> simp [h]
                      rw [hbq]
                    · rw [HSS.out, HCC.out]
                      exact HF2.lay.perm [5, 4] (by decide) rfl
end Go.Proofs.Ytcmbbioipbdonaa
