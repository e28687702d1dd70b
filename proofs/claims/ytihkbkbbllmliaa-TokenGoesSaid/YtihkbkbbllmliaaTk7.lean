/- The walk of token.Play. -/
import Derived.Test.YtihkbkbbllmliaaTk6
import Derived.Test.YtihkbkbbllmliaaTkInv
import Derived.Test.YtihkbkbbllmliaaTkRoot2
import Derived.Test.YtihkbkbbllmliaaSeenF
import Derived.Test.YtihkbkbbllmliaaPop
import Derived.Deep.CutRange
import Derived.Deep.CutBlock
set_option linter.unusedVariables false
set_option linter.unusedSimpArgs false
namespace Go.Proofs.Ytihkbkbbllmliaa
open Go.RowKit Go.Maps Go.MapKept

theorem infoErrnoK : (Try.prog.info? 27).map (fun i => (i.zero, i.size, i.bytes)) = some (some (.int .i64 0), 1, 8) := by kernel_rfl
theorem infoRowK : (Try.prog.info? 36).map (fun i => (i.zero, i.size, i.bytes)) = some (some (.slice none 0 0), 1, 24) := by kernel_rfl
abbrev blkK (b : Nat) (l : List Value) : LRow := blk b 26 4 (ofL l)
abbrev zeroKL : List Value := [.slice none 0 0, .int .u32 0, .int .u32 0, .int .i64 0]
abbrev lstK (A : Option Addr) (m cap : Nat) (fc : Nat → Int) : LRow := lst A 27 m cap (fun i => .int .i64 (fc i))
def inK (s : KS) (i : Nat) : Nat := wordP (fun j => decide (s.inn = (j : Int))) i
def wantK (s : KS) (i : Nat) : Nat := wordP (fun j => decide (j ∈ s.row j)) i
theorem inK_next (s : KS) (i : Nat) : inK s (i + 1) = if s.inn = (i : Int) then inK s i ||| 2 ^ i else inK s i := by
  show (if decide (s.inn = (i : Int)) = true then _ else _) = _
  by_cases h : s.inn = (i : Int)
  · rw [if_pos (by simpa using h), if_pos h]; rfl
  · rw [if_neg (by simpa using h), if_neg h]; rfl
theorem wantK_next (s : KS) (i : Nat) : wantK s (i + 1) = if i ∈ s.row i then wantK s i ||| 2 ^ i else wantK s i := by
  show (if decide (i ∈ s.row i) = true then _ else _) = _
  by_cases h : i ∈ s.row i
  · rw [if_pos (by simpa using h), if_pos h]; rfl
  · rw [if_neg (by simpa using h), if_neg h]; rfl
/-- What the loads of 't.Codes = append(t.Codes, a.do(m))' read. -/
def MvSK (b q : Nat) (C : Value) (k f t v : Int) (w : World) : Prop :=
  w.cell? ⟨b, 0, none⟩ = some C ∧ w.cell? ⟨q, 0, none⟩ = some (.int .i64 k) ∧ w.cell? ⟨q, 1, none⟩ = some (.int .i64 f) ∧ w.cell? ⟨q, 2, none⟩ = some (.int .i64 t) ∧ w.cell? ⟨q, 3, none⟩ = some (.int .i64 v)
theorem MvSK.of {w0 w : World} {L : List LRow} {b q : Nat} {C : Value} {l : List Value} {k f t v : Int} (h : Lay w0 w L) (i j : Nat) (hi : L[i]? = some (blkK b (C :: l))) (hj : L[j]? = some (mvB q k f t v)) : MvSK b q C k f t v w :=
  ⟨h.cellB i hi 0 (by omega), h.cellB j hj 0 (by omega), h.cellB j hj 1 (by omega), h.cellB j hj 2 (by omega), h.cellB j hj 3 (by omega)⟩
/-- What the region that makes the tree yields. -/
def newF (n : Nat) (A : Option Addr) (cap s : Nat) (r : Nat) (u : Nat → Int) (i : Nat) : Value → Nat → World → Prop := match i with
  | 0 => isV (.slice A n cap)
  | 1 => isRow s 3 1 n (fun j => .int .i64 (u j))
  | 2 => isV (.slice A n cap)
  | 3 => isV (.int .i64 n)
  | 4 => isNewV (fun g => .slice (some ⟨g, 0, none⟩) n n) (.cells (madeCells #[.slice none 0 0] n) 36)
  | 5 => isV (.int .i64 r)
  | 6 => isNewV (fun g => .map (some g)) (.map #[] 0)
  | _ => fun _ _ _ => False
def newB (i : Nat) : Bool := i == 1 || i == 4 || i == 6
theorem newF_keep (n : Nat) (A : Option Addr) (cap s r : Nat) (u : Nat → Int) (i : Nat) (v : Value) (g : Nat) (w1 w2 : World) (h : newF n A cap s r u i v g w1) (hb : Below w1.heap.size w1 w2) : newF n A cap s r u i v g w2 := by
  rcases i with _ | _ | _ | _ | _ | _ | _ | i
  · exact h
  · exact isRow_keep h hb
  · exact h
  · exact h
  · exact isNewV_keep (f := fun g => .slice (some ⟨g, 0, none⟩) n n) (ob := .cells (madeCells #[.slice none 0 0] n) 36) h hb
  · exact h
  · exact isNewV_keep (f := fun g => .map (some g)) (ob := .map #[] 0) h hb
  · exact h
section
variable (n : Nat) (w : World)
set_option maxRecDepth 100000 in
set_option maxHeartbeats 3200000 in
theorem tk_good (m cap cap1 B r : Nat) (A A1 : Option Addr) (u : Nat → Int) (M : Mv) (hn1 : 1 ≤ n) (hn : n ≤ 6) (hm : m ≤ 60) (hB : B ≤ w.heap.size) (hru : Rd w B A1 n (fun j => .int .i64 (u j))) (ht : TreeOk n u) (hrt : rootsL (vN u) n = [r]) (hr : Rd w B A (m * 4) (mvF M)) :
    Calls Try.prog 13 #[.slice A1 n cap1, .slice A m cap] w (Gives fun v w' => ∃ AC cC, v = .tuple #[.agg #[.slice AC m cC, .int .u32 (inK (tkE n (vN u) r M m) n : Nat), .int .u32 (wantK (tkE n (vN u) r M m) n : Nat), .int .i64 (wayLen n (tkE n (vN u) r M m).way : Nat)], .int .i64 0] ∧
      Lay w w' [lstK AC m cC (tkC n (vN u) r M)]) := by
  have HR := Lib.hid hr; clear hr
  have HRU := Lib.hid hru; clear hru
  have HT := Lib.hid ht; clear ht
  have HRT := Lib.hid hrt; clear hrt
  have HV : Hid (∀ i, i < n → vN u i < n) := Lib.hid fun i hi => by have := HT.out.ins i hi; unfold vN; omega
  obtain ⟨iE, hiE, hzE0, hzE1, hzE2⟩ := info_parts infoErrnoK
  obtain ⟨iO, hiO, hzO0, hzO1, hzO2⟩ := info_parts infoRowK
  have hmm := @run_makeMap Try.prog
  go_enter Try.func13, Try.ntmps13
  go_wp2_with fail
  have HL0 := Lib.hid ((Lay.nil w).newB zeroKL 26 4 rfl _ rfl)
  refine at_lay (F := fun W' => Calls _ _ _ W' _) HL0.out ?_
  intro W hW
  have HW := Lib.hid hW
  clear hW HL0
  generalize w.heap.size = br at HW ⊢
  refine (root_any A1 n cap1 B u W hn (Nat.le_trans hB HW.out.size) (HRU.out.below (HW.out.bel.mono hB))).mono ?_
  rintro e w1 ⟨v, rfl, hp, hb⟩
  have hv : v = .tuple #[.int .i64 r, .int .i64 0] := by
    rcases hp with ⟨_, r', h1, h2⟩ | ⟨h1, _⟩
    · have h3 := h1.symm.trans HRT.out
      injection h3 with h3
      rw [h2, h3]
    · exact absurd HT.out h1
  subst hv
  have H1 := Lib.hid (HW.out.keep hb)
  clear hb hp HW
  go_wp2_with fail
  refine wp_newF [0, 1, 2, 3, 4, 5, 6] [39, 40, 41, 42, 43, 44, 45] [7, 8, 9] 7 newB (newF n A1 cap1 w1.heap.size r u) (by kernel_rfl) (by kernel_rfl) (by kernel_rfl) (by decide) rfl (by kernel_rfl) (newF_keep n A1 cap1 w1.heap.size r u) ?ext ?fin
  case ext =>
    intro i hi o ho a w2 hb hold hf
    simp only [List.mem_cons, List.not_mem_nil, or_false] at hi
    rcases hi with rfl | rfl | rfl | rfl | rfl | rfl | rfl
    all_goals cases ho
    · exact does_move _ rfl (eval_tmp (hold 0 (by decide)))
    · obtain ⟨g0, h0⟩ := hf 0 39 rfl rfl
      have h0 : a.tmps[39]?.getD undef = .slice A1 n cap1 := h0
      refine does_call (f := 19) (args := #[.slice A1 n cap1]) ?_ ((cloneI_any A1 n cap1 B u w2 hn1 (by omega) (Nat.le_trans hB (Nat.le_trans H1.out.size hb.size)) (HRU.out.below ((H1.out.bel.trans (hb.mono H1.out.size)).mono hB))).mono fun e w' ⟨v, h1, h2, g, h3, h4, h5⟩ => ⟨v, h1, h2, g, ?_, fun _ => ⟨h4, h5⟩⟩)
      · go_simp
      · obtain ⟨cp, e1, e2⟩ := h3
        exact ⟨cp, e1, e2.base_le hb.size⟩
    · exact does_move _ rfl (eval_tmp (hold 0 (by decide)))
    · obtain ⟨g0, h0⟩ := hf 2 41 rfl rfl
      have h0 : a.tmps[41]?.getD undef = .slice A1 n cap1 := h0
      exact does_run (w' := w2) (v := .int .i64 n) (by go_simp) ⟨Below.refl _ _, 0, rfl, fun h => by cases h⟩
    · obtain ⟨g0, h0⟩ := hf 3 42 rfl rfl
      have h0 : a.tmps[42]?.getD undef = .int .i64 n := h0
      exact does_new (f := fun g => .slice (some ⟨g, 0, none⟩) n n) (nspec_mk _ _ rfl _ iO _ _ Try.underlying55 hiO hzO0 hzO1 hzO2 (eval_tmp h0) (by omega) (by omega)) true
    · exact does_move _ rfl (eval_tmp (hold 6 (by decide)))
    · exact does_new (f := fun g => .map (some g)) (ob := .map #[] 0) (by go_simp) true
  case fin =>
    intro y γ w2 hb hy hn2 hap
    have y0 : y 0 = .slice A1 n cap1 := hy 0 (by decide)
    have y2 : y 2 = .slice A1 n cap1 := hy 2 (by decide)
    have y3 : y 3 = .int .i64 n := hy 3 (by decide)
    have y5 : y 5 = .int .i64 r := hy 5 (by decide)
    obtain ⟨cp, y1, o1⟩ := hy 1 (by decide)
    obtain ⟨y4, o4⟩ := hy 4 (by decide)
    obtain ⟨y6, o6⟩ := hy 6 (by decide)
    obtain ⟨l1, -⟩ := hn2 1 (by decide) rfl
    obtain ⟨l4, -⟩ := hn2 4 (by decide) rfl
    obtain ⟨l6, -⟩ := hn2 6 (by decide) rfl
    have n14 := hap 1 (by decide) 4 (by decide) (by decide) rfl rfl
    simp only [List.drop_succ_cons, List.drop_zero, List.zip_cons_cons, List.zip_nil_right, List.foldl_cons, List.foldl_nil, y0, y1, y2, y3, y4, y5, y6]
    simp only [Act.put, List.setIfInBounds_toArray, List.set_cons_zero, List.set_cons_succ]
    generalize γ 1 = gp at l1 o1 n14 ⊢
    generalize γ 4 = go at l4 o4 n14 ⊢
    generalize γ 6 = bm at l6 o6 ⊢
    have hk := H1.out.keep hb
    have HL : Hid (Lay w w2 ([⟨some ⟨gp, 0, none⟩, 3, 1, n, cp, fun j => .int .i64 (u j)⟩, arr go 36 n (fun _ => .slice none 0 0)] ++ [blkK br zeroKL])) := Lib.hid (by
      refine H1.out.rows hb _ (fun r hr => ?_) (by simp [ablock]; omega)
      simp only [List.mem_cons, List.not_mem_nil, or_false] at hr
      rcases hr with rfl | rfl
      · exact ⟨o1.base_le H1.out.size, gp, rfl, l1⟩
      · exact ⟨H1.out.arr_at (z := .slice none 0 0) (n := n) rfl l4 o4 (by unfold maxLen; omega) (fun _ _ => rfl), go, rfl, l4⟩)
    have HM := Lib.hid (HL.out.toM.oldM (wayE Try.prog 48 n (fun _ => .slice none 0 0)) (EMap.empty _ _ _ _ _).few bm (Nat.le_trans H1.out.size l6) o6 (fun i q hi => by simp at hi))
    clear o1 o4 o6 n14 l1 l4 l6 y0 y1 y2 y3 y4 y5 y6 hk hap hy hn2 hb HL H1
    have HL3 : Hid (∃ g bt, g = w2.heap.size ∧ bt = w2.heap.size + 1 ∧ LayK g gp go bm n cp [lstK none 0 0 (tkC n (vN u) r M), blkK bt zeroKL, blkK br zeroKL] w (fun _ => .slice none 0 0) (tkE n (vN u) r M 0) ((w2.alloc (.cells #[.slice (some ⟨gp, 0, none⟩) n cp, .slice (some ⟨go, 0, none⟩) n n, .int .i64 r, .int .i64 (-1), .map (some bm)] 58)).alloc (.cells #[.slice none 0 0, .int .u32 0, .int .u32 0, .int .i64 0] 26))) :=
      Lib.hid ⟨_, _, rfl, rfl, (((((((HM.out.congr 0 (fun j => .int .i64 (vN u j : Nat)) rfl (fun j hj => by show Value.int .i64 (u j) = _; rw [vN_int HT.out.ins (by simpa using hj)])).newB [.slice (some ⟨gp, 0, none⟩) n cp, .slice (some ⟨go, 0, none⟩) n n, .int .i64 r, .int .i64 (-1), .map (some bm)] 58 5 rfl _ rfl).newB zeroKL 26 4 rfl _ (by simp)).lnil 27 1 (fun k => .int .i64 (tkC n (vN u) r M k))).perm [2, 3, 4, 0, 1, 5] (by decide) rfl).toQ tyK).sameQ fun a => by rcases a with a | a <;> rfl)⟩
    go_wp2
    obtain ⟨g, bt, hg, hbt, hL⟩ := HL3.out
    rw [← hbt, ← hg]
    have HL4 := Lib.hid hL
    clear hL HL3 HM hg hbt
    go_loopw [50] (fun v wr => ∃ (j : Nat) (f : FK → Value), j ≤ m ∧ v = .int .i64 j ∧ ∃ AC cC, Hid (LayK g gp go bm n cp [lstK AC j cC (tkC n (vN u) r M), blkK bt [.slice AC j cC, .int .u32 0, .int .u32 0, .int .i64 0], blkK br zeroKL] w f (tkE n (vN u) r M j) wr)) (fun v _ => m - (intOf v).toNat)
    case atStart => exact ⟨0, _, by omega, rfl, none, 0, HL4⟩
    case round =>
      clear HL4
      obtain ⟨j, f, hj, rfl, AC, cC, HQ⟩ := hrel
      by_cases hlt : j < m
      · obtain ⟨ad, rfl, hbl, m0, m1, m2, m3⟩ := (HR.out.below (HQ.out.lay.bel.mono hB)).rec4 hlt
        clear hbl
        go_wp2
        clear m0 m1 m2 m3
        have HQ1 := Lib.hid ((HQ.out.newB [.int .i64 (M.k j), .int .i64 (M.f j), .int .i64 (M.t j), .int .i64 (M.v j)] 35 4 rfl _ rfl).rot3)
        refine at_layQ (F := fun W' => Code.wp _ _ _ _ W') HQ1.out ?_
        intro W hW
        have HW : Hid (LayK g gp go bm n cp [mvB wr.heap.size (M.k j) (M.f j) (M.t j) (M.v j), lstK AC j cC (tkC n (vN u) r M), blkK bt [.slice AC j cC, .int .u32 0, .int .u32 0, .int .i64 0], blkK br zeroKL] w f (tkE n (vN u) r M j) W) := Lib.hid hW
        clear hW HQ1 HQ
        generalize wr.heap.size = x at HW ⊢
        have hs : MvSK bt x (.slice AC j cC) (M.k j) (M.f j) (M.t j) (M.v j) W := MvSK.of HW.out.lay 5 3 rfl rfl
        refine wp_held_mask (MvSK bt x (.slice AC j cC) (M.k j) (M.f j) (M.t j) (M.v j)) [true, true, true, true, false, false, false, false, false] ?A1 (by kernel_rfl) rfl (by kernel_rfl) (by repeat' (first | (with_reducible apply tame_then) | (with_reducible apply tame_block) | (with_reducible apply tame_scope) | exact tame_gives | exact tame_body (fun _ _ h => ⟨_, h.1⟩))) hs ?head ?tail
        case head =>
          intro W5 ⟨s0, s1, s2, s3, s4⟩
          simp only [pick]
          go_wp2
          exact taken
        case tail =>
          clear hs
          simp only [pick, List.map_cons, List.map_nil, Bool.not_true, Bool.not_false]
          refine tail_step ?_
          go_wp2_with fail
          refine (doK_any g gp go bm n cp [mvB x (M.k j) (M.f j) (M.t j) (M.v j), lstK AC j cC (tkC n (vN u) r M), blkK bt [.slice AC j cC, .int .u32 0, .int .u32 0, .int .i64 0], blkK br zeroKL] w f (tkE n (vN u) r M j) _ (M.k j) (M.f j) (M.t j) (M.v j) hn ((tkE_J HV.out M j).bk (by omega) (by omega)) (by exact tk_sim HW.out ⟨rfl, rfl, rfl, rfl⟩)).mono ?_
          rintro e w3 ⟨rfl, f3, h3⟩
          have H3 : Hid (LayK g gp go bm n cp [mvB x (M.k j) (M.f j) (M.t j) (M.v j), lstK AC j cC (tkC n (vN u) r M), blkK bt [.slice AC j cC, .int .u32 0, .int .u32 0, .int .i64 0], blkK br zeroKL] w f3 (tkE n (vN u) r M (j + 1)) w3) := Lib.hid h3
          clear h3 HW
          go_wp2
          refine holds (MvSK.of H3.out.lay 5 3 rfl rfl) ?_
          refine tail_step ?_
          go_wp2
          refine holds (MvSK.of (H3.out.lay.alloc _) 5 3 rfl rfl) ?_
          refine tail_step ?_
          refine wpList_ap1 rfl (.tmp 55) (.tmp 59) _ rfl 27 iE _ 8 Try.underlying23 hiE hzE0 hzE1 hzE2 rfl w.heap.size rfl ((H3.out.lay.alloc _).own 4 _ rfl) rfl (cell_new _ _ _ _ _ rfl (one_cell _)) (fun _ _ => rfl) (fun k => .int .i64 (tkC n (vN u) r M k)) (fun _ _ => rfl) (one_at rfl) (j + 1) rfl (by unfold maxLen; omega) (by omega) (by have := H3.out.size; simp; omega) ?_
          intro A2 cap2 w4 ho hg ha
          have H4 : Hid (LayK g gp go bm n cp [mvB x (M.k j) (M.f j) (M.t j) (M.v j), lstK A2 (j + 1) cap2 (tkC n (vN u) r M), blkK bt [.slice AC j cC, .int .u32 0, .int .u32 0, .int .i64 0], blkK br zeroKL] w f3 (tkE n (vN u) r M (j + 1)) w4) := Lib.hid ((H3.out.alloc _).app 4 rfl ho hg ha)
          clear ho hg ha H3
          refine holds (MvSK.of H4.out.lay 5 3 rfl rfl) ?_
          refine tail_step ?_
          go_wp2
          refine holds (MvSK.of H4.out.lay 5 3 rfl rfl) ?_
          refine tail_last ?_
          have c0 := H4.out.lay.cellB 5 rfl 0 (by omega)
          have f0 := H4.out.lay.frz 5 rfl (by omega) 0
          simp only [ofL_0] at c0
          have H5 : Hid (LayK g gp go bm n cp [lstK A2 (j + 1) cap2 (tkC n (vN u) r M), blkK bt [.slice A2 (j + 1) cap2, .int .u32 0, .int .u32 0, .int .i64 0], blkK br zeroKL] w f3 (tkE n (vN u) r M (j + 1)) (w4.setCell ⟨bt, 0, none⟩ (.slice A2 (j + 1) cap2))) := Lib.hid ((H4.out.fld 5 0 (.slice A2 (j + 1) cap2) rfl (by omega) (by simp)).drop3)
          go_wp2
          go_roundw
          case rel => exact ⟨j + 1, f3, by omega, by go_num, A2, cap2, H5⟩
          case measure => simp [intOf]; omega
      · obtain rfl : j = m := by omega
        obtain ⟨-, c1, -, -, -⟩ := tk_heads HQ.out
        have hT := tkE_J HV.out M j (r := r)
        generalize hss : tkE n (vN u) r M j = s at *
        have HQ0 : Hid (LayK g gp go bm n cp [lstK AC j cC (tkC n (vN u) r M), blkK bt [.slice AC j cC, .int .u32 (inK s 0 : Nat), .int .u32 (wantK s 0 : Nat), .int .i64 0], blkK br zeroKL] w f s wr) := HQ
        clear HQ
        have HJ := Lib.hid hT
        have HLN : Hid (∀ p, (s.way p).length ≤ 180) := Lib.hid fun p => Nat.le_trans (HJ.out.sh p) (by omega)
        have HSS := Lib.hid hss
        clear hT hss
        go_wp2
        clear c1
        go_loopw [68] (fun v wr => ∃ i : Nat, i ≤ n ∧ v = .int .i64 i ∧ Hid (LayK g gp go bm n cp [lstK AC j cC (tkC n (vN u) r M), blkK bt [.slice AC j cC, .int .u32 (inK s i : Nat), .int .u32 (wantK s i : Nat), .int .i64 0], blkK br zeroKL] w f s wr)) (fun v _ => n - (intOf v).toNat)
        case atStart => exact ⟨0, by omega, rfl, HQ0⟩
        case round =>
          clear HQ0
          obtain ⟨i, hi, rfl, HQ⟩ := hrel
          by_cases hlt : i < n
          · have HIN := Lib.hid (inK_next s i)
            have HWN := Lib.hid (wantK_next s i)
            obtain ⟨-, -, -, c3, -⟩ := tk_heads HQ.out
            have li : inK s i < 2 ^ i := wordP_lt _ _
            have lw : wantK s i < 2 ^ i := wordP_lt _ _
            have l32 : 2 ^ i < 4294967296 := pow_lt32 (by omega)
            have hor1 := or_pow (a := inK s i) (m := i) (by omega) (by omega)
            have hor2 := or_pow (a := wantK s i) (m := i) (by omega) (by omega)
            clear li lw l32
            have cr0 := HQ.out.lay.cell1 2 rfl hlt
            obtain ⟨A2, cap2, hf, hcl, hcm⟩ := HQ.out.len (.inr i)
            have hlen : (qsK s (.inr i)).length = (s.row i).length := vK_len _
            rw [hlen] at hf hcl
            have cr : wr.cell? ⟨go, i, none⟩ = some (.slice A2 (s.row i).length cap2) := by rw [← hf]; exact cr0
            have hrl := HJ.out.rl i
            have HF := Lib.hid hf
            have b1 := HQ.out.lay.cellB 4 rfl 1 (by omega)
            have b2 := HQ.out.lay.cellB 4 rfl 2 (by omega)
            simp only [ofL_1, ofL_2] at b1 b2
            have g1 := HQ.out.lay.frz 4 rfl (by omega) 1
            have g2 := HQ.out.lay.frz 4 rfl (by omega) 2
            clear cr0 hf hlen
            by_cases hin : s.inn = (i : Int)
            · have e2 : (s.inn == (i : Int)) = true := by rw [beq_iff_eq]; exact hin
              have hnr := HJ.out.out i hin
              have HC : Hid (anyTo (fun j => (i : Int) == ((s.row i)[j]?.getD 0 : Nat)) (s.row i).length = false) := Lib.hid (mem_any.trans (by simp [hnr]))
              have H5 : Hid (LayK g gp go bm n cp [lstK AC j cC (tkC n (vN u) r M), blkK bt [.slice AC j cC, .int .u32 (inK s (i + 1) : Nat), .int .u32 (wantK s (i + 1) : Nat), .int .i64 0], blkK br zeroKL] w f s (wr.drew.setCell ⟨bt, 1, none⟩ (.int .u32 (inK s i ||| 2 ^ i : Nat)))) := Lib.hid (by
                rw [HIN.out, HWN.out, if_pos hin, if_neg hnr]
                exact HQ.out.drew.fld 4 1 (.int .u32 (inK s i ||| 2 ^ i : Nat)) rfl (by omega) (by simp))
              have HRD := Lib.hid (qsl_rd rfl (by have := H5.out.own (.inr i); rw [HF.out] at this; exact this))
              clear hin hnr
              go_wp2
              refine wp_text 6 (by kernel_rfl) (by kernel_rfl) (by kernel_rfl) (by repeat' (first | (with_reducible apply tame_then) | (with_reducible apply tame_block) | (with_reducible apply tame_scope) | exact tame_gives | exact tame_body (fun _ _ h => ⟨_, h.1⟩))) ?_
              simp only [List.take_succ_cons, List.take_zero, List.drop_succ_cons, List.drop_zero]
              go_wp2
              refine headed ?_
              go_wp2_with fail
              refine (contI_is false A2 (s.row i).length cap2 _ _ (i : Int) _ (by unfold maxLen; omega) HRD.out HC.out).mono ?_
              rintro e w3 ⟨rfl, rfl⟩
              go_wp2
              go_roundw
              case rel => exact ⟨i + 1, by omega, by go_num, H5⟩
              case measure => simp [intOf]; omega
            · have e2 : (s.inn == (i : Int)) = false := by rw [beq_eq_false_iff_ne]; exact hin
              have HRD := Lib.hid (qsl_rd rfl (by have := HQ.out.own (.inr i); rw [HF.out] at this; exact this))
              by_cases hnr : i ∈ s.row i
              · have HC : Hid (anyTo (fun j => (i : Int) == ((s.row i)[j]?.getD 0 : Nat)) (s.row i).length = true) := Lib.hid (mem_any.trans (by simp [hnr]))
                have H5 : Hid (LayK g gp go bm n cp [lstK AC j cC (tkC n (vN u) r M), blkK bt [.slice AC j cC, .int .u32 (inK s (i + 1) : Nat), .int .u32 (wantK s (i + 1) : Nat), .int .i64 0], blkK br zeroKL] w f s (wr.drew.setCell ⟨bt, 2, none⟩ (.int .u32 (wantK s i ||| 2 ^ i : Nat)))) := Lib.hid (by
                  rw [HIN.out, HWN.out, if_neg hin, if_pos hnr]
                  exact HQ.out.drew.fld 4 2 (.int .u32 (wantK s i ||| 2 ^ i : Nat)) rfl (by omega) (by simp))
                clear hin hnr
                go_wp2_with fail
                refine (contI_is true A2 (s.row i).length cap2 _ _ (i : Int) _ (by unfold maxLen; omega) HRD.out HC.out).mono ?_
                rintro e w3 ⟨rfl, rfl⟩
                go_wp2
                refine wp_text 6 (by kernel_rfl) (by kernel_rfl) (by kernel_rfl) (by repeat' (first | (with_reducible apply tame_then) | (with_reducible apply tame_block) | (with_reducible apply tame_scope) | exact tame_gives | exact tame_body (fun _ _ h => ⟨_, h.1⟩))) ?_
                simp only [List.take_succ_cons, List.take_zero, List.drop_succ_cons, List.drop_zero]
                go_wp2
                refine headed ?_
                go_wp2
                go_roundw
                case rel => exact ⟨i + 1, by omega, by go_num, H5⟩
                case measure => simp [intOf]; omega
              · have HC : Hid (anyTo (fun j => (i : Int) == ((s.row i)[j]?.getD 0 : Nat)) (s.row i).length = false) := Lib.hid (mem_any.trans (by simp [hnr]))
                have H5 : Hid (LayK g gp go bm n cp [lstK AC j cC (tkC n (vN u) r M), blkK bt [.slice AC j cC, .int .u32 (inK s (i + 1) : Nat), .int .u32 (wantK s (i + 1) : Nat), .int .i64 0], blkK br zeroKL] w f s wr) := Lib.hid (by
                  rw [HIN.out, HWN.out, if_neg hin, if_neg hnr]
                  exact HQ.out)
                clear hin hnr
                go_wp2_with fail
                refine (contI_is false A2 (s.row i).length cap2 _ _ (i : Int) _ (by unfold maxLen; omega) HRD.out HC.out).mono ?_
                rintro e w3 ⟨rfl, rfl⟩
                go_wp2
                go_roundw
                case rel => exact ⟨i + 1, by omega, by go_num, H5⟩
                case measure => simp [intOf]; omega
          · obtain rfl : i = n := by omega
            obtain ⟨es, c, hb, hφ⟩ := HQ.out.mp 0 rfl
            have HPH := Lib.hid hφ
            have hst := hφ.stamped
            have c1 := (tk_heads HQ.out).2.2.2.2
            have HSUM : Hid ((es.toList.map fun e => lenV e.val).sum = wayLen i s.way) := Lib.hid (way_sum hφ fun p => by
              obtain ⟨A, cap, hf, _⟩ := HQ.out.len (.inl p)
              rw [hf]
              exact vB_len _)
            have hwl : wayLen i s.way ≤ 6480 := by
              have h1 := sum_le (g := fun p => (s.way p).length) (B := 180) (l := pairs i) fun p _ => HLN.out p
              rw [pairs_len] at h1
              have h2 := Nat.mul_le_mul hn hn
              unfold wayLen; omega
            have HI0 := Lib.hid (HQ.out.alloc (.mapIter (some bm) c #[] c))
            have hrz : w.heap.size ≤ wr.heap.size := HQ.out.size
            clear hφ HQ
            go_wp2_with (first
              | (at_range; refine wpList_rangeE rfl (.tmp 98) _ rfl Try.underlying56 rfl hb ?_; intro w5 hw5 hrg5; have HR5 := Lib.hid hrg5; have HM5 : Hid (LayK g gp go bm i cp _ w f s w5) := Lib.hid (by rw [hw5]; exact HI0.out); clear hw5 hrg5)
              | fail)
            clear hb c1 HI0
            generalize wr.heap.size = rr at HR5 hrz ⊢
            try go_frame
            go_loopw [] (fun wr => ∃ (seen : Array Nat), Hid (Rng wr bm rr es c seen) ∧ Hid (LayK g gp go bm i cp [lstK AC j cC (tkC i (vN u) r M), blkK bt [.slice AC j cC, .int .u32 (inK s i : Nat), .int .u32 (wantK s i : Nat), .int .i64 (seenF (fun e => lenV e.val) es.toList seen : Nat)], blkK br zeroKL] w f s wr)) (fun wr => wr.rangeLeft bm rr)
            case atStart => exact ⟨#[], HR5, by rw [seenF_none]; exact HM5⟩
            case round =>
              clear HR5 HM5
              obtain ⟨seen, HR3, HM⟩ := hrel
              go_wp2_with (first
                | (at_next; refine wpList_nextE rfl (.tmp 99) rfl rfl HR3.out hst ?_ ?_)
                | fail)
              · intro h0'
                have h0 : (leftOf es seen).size = 0 := by simpa using h0'
                have HA : Hid (seenF (fun e => lenV e.val) es.toList seen = wayLen i s.way) := Lib.hid (by
                  rw [← HSUM.out]
                  exact seenF_all fun x hx => all_seen es seen h0 x hx)
                clear h0 h0'
                have b0 := HM.out.lay.cellB 4 rfl 0 (by omega)
                have b1 := HM.out.lay.cellB 4 rfl 1 (by omega)
                have b2 := HM.out.lay.cellB 4 rfl 2 (by omega)
                have b3 := HM.out.lay.cellB 4 rfl 3 (by omega)
                have r0 := HM.out.lay.cellB 5 rfl 0 (by omega)
                have r1 := HM.out.lay.cellB 5 rfl 1 (by omega)
                have r2 := HM.out.lay.cellB 5 rfl 2 (by omega)
                have r3 := HM.out.lay.cellB 5 rfl 3 (by omega)
                simp only [ofL_0, ofL_1, ofL_2, ofL_3] at b0 b1 b2 b3 r0 r1 r2 r3
                rw [HA.out] at b3
                have f0 := HM.out.lay.frz 5 rfl (by omega) 0
                have f1 := HM.out.lay.frz 5 rfl (by omega) 1
                have f2 := HM.out.lay.frz 5 rfl (by omega) 2
                have f3 := HM.out.lay.frz 5 rfl (by omega) 3
                have HF := Lib.hid ((((HM.out.fld 5 0 (.slice AC j cC) rfl (by omega) (by simp)).fld 5 1 (.int .u32 (inK s i : Nat)) rfl (by omega) (by simp)).fld 5 2 (.int .u32 (wantK s i : Nat)) rfl (by omega) (by simp)).fld 5 3 (.int .i64 (wayLen i s.way : Nat)) rfl (by omega) (by simp))
                go_wp2
                have HF2 := HF.out
                clear b0 b1 b2 b3 r0 r1 r2 r3 f0 f1 f2 f3 HF HM HR3
                generalize (((wr.setCell ⟨br, 0, none⟩ (.slice AC j cC)).setCell ⟨br, 1, none⟩ (.int .u32 (inK s i : Nat))).setCell ⟨br, 2, none⟩ (.int .u32 (wantK s i : Nat))).setCell ⟨br, 3, none⟩ (.int .i64 (wayLen i s.way : Nat)) = W8 at HF2 ⊢
                have r0 : W8.cell? ⟨br, 0, none⟩ = some (.slice AC j cC) := HF2.lay.cellB 5 rfl 0 (by omega)
                have r1 : W8.cell? ⟨br, 1, none⟩ = some (.int .u32 (inK s i : Nat)) := HF2.lay.cellB 5 rfl 1 (by omega)
                have r2 : W8.cell? ⟨br, 2, none⟩ = some (.int .u32 (wantK s i : Nat)) := HF2.lay.cellB 5 rfl 2 (by omega)
                have r3 : W8.cell? ⟨br, 3, none⟩ = some (.int .i64 (wayLen i s.way : Nat)) := HF2.lay.cellB 5 rfl 3 (by omega)
                exact bodyPost_ret (v := .tuple #[.agg #[.slice AC j cC, .int .u32 (inK s i : Nat), .int .u32 (wantK s i : Nat), .int .i64 (wayLen i s.way : Nat)], .int .i64 0]) (by simp [results, Try.results13, go_sem, r0, r1, r2, r3]) rfl ⟨_, rfl, AC, cC, by rw [HSS.out], HF2.lay.perm [3] (by decide) rfl⟩
              · intro e w6 hem' hns hrg hlt hgr hsz hen
                have hem : e ∈ es.toList := by simpa using hem'
                obtain ⟨a, ha, hk⟩ := HPH.out.dom e hem
                obtain ⟨AA, cq, hfa, hcp, _⟩ := HM.out.len (.inl a)
                have hev : e.val = .slice AA (s.way a).length cq := by
                  rw [← HPH.out.val e hem a hk, hfa]
                  show Value.slice AA (vB (s.way a)).length cq = _
                  rw [vB_len]
                have hl60 := HLN.out a
                have HR6 := Lib.hid hrg
                have HM6 := Lib.hid (HM.out.turned hgr HR3.out hrz)
                have HLQ : Hid (wr.rangeLeft bm rr = (leftOf es seen).size) := Lib.hid HR3.out.left_eq
                have HLT2 := Lib.hid hlt
                have HPU : Hid (seenF (fun e => lenV e.val) es.toList (seen.push e.born) = seenF (fun e => lenV e.val) es.toList seen + (s.way a).length) := Lib.hid (by
                  rw [seenF_push (by simpa using hns) ((stamped_iff es c).1 hst).2.1 hem]
                  show _ + lenV e.val = _
                  rw [hev]; rfl)
                have hsl : seenF (fun e => lenV e.val) es.toList seen ≤ 6480 := by
                  have h1 := seenF_le (fun e => lenV e.val) seen es.toList
                  rw [HSUM.out] at h1
                  exact Nat.le_trans h1 hwl
                rw [hev, hk] at hen ⊢
                generalize seen.push e.born = seen2 at *
                generalize seenF (fun e => lenV e.val) es.toList seen = k0 at *
                have b3 := HM6.out.lay.cellB 4 rfl 3 (by omega)
                have f3 := HM6.out.lay.frz 4 rfl (by omega) 3
                simp only [ofL_3] at b3
                have H7 : Hid (LayK g gp go bm i cp [lstK AC j cC (tkC i (vN u) r M), blkK bt [.slice AC j cC, .int .u32 (inK s i : Nat), .int .u32 (wantK s i : Nat), .int .i64 ((k0 : Int) + ((s.way a).length : Int))], blkK br zeroKL] w f s (w6.setCell ⟨bt, 3, none⟩ (.int .i64 ((k0 : Int) + ((s.way a).length : Int))))) := Lib.hid (HM6.out.fld 4 3 (.int .i64 ((k0 : Int) + ((s.way a).length : Int))) rfl (by omega) (by simp))
                have HR7 : Hid (Rng (w6.setCell ⟨bt, 3, none⟩ (.int .i64 ((k0 : Int) + ((s.way a).length : Int)))) bm rr es c seen2) := Lib.hid (HR6.out.onCell HM6.out.lay 4 rfl)
                unfold keyQ at hen
                unfold keyQ
                clear hrg hgr hns hlt hk hem hem' HM HR3 hev hfa HM6 HR6
                go_wp2
                go_roundw
                case rel => exact ⟨seen2, HR7, by rw [HPU.out, Int.natCast_add]; exact H7⟩
                case measure => rw [HR7.out.left_eq, HLQ.out]; exact HLT2.out
end
end Go.Proofs.Ytihkbkbbllmliaa
