/- The walk of turn.Play. -/
import Derived.Test.YtihkbkbbllmliaaTu4
import Derived.Test.YtihkbkbbllmliaaSeenF
import Derived.Test.YtihkbkbbllmliaaNew
import Derived.Test.YtihkbkbbllmliaaPop
import Derived.Deep.CutRange
import Derived.Deep.CutBlock
set_option linter.unusedVariables false
set_option linter.unusedSimpArgs false
namespace Go.Proofs.Ytihkbkbbllmliaa
open Go.RowKit Go.Maps Go.MapKept

theorem infoErrnoT : (Try.prog.info? 27).map (fun i => (i.zero, i.size, i.bytes)) = some (some (.int .i64 0), 1, 8) := by kernel_rfl
theorem infoOneT : (Try.prog.info? 47).map (fun i => (i.zero, i.size, i.bytes)) = some (some (.agg #[.int .i64 0, .int .i64 0, .bool false, .int .u32 0, .int .u32 0]), 5, 32) := by kernel_rfl
abbrev blkT (b : Nat) (l : List Value) : LRow := blk b 26 4 (ofL l)
abbrev zeroTL : List Value := [.slice none 0 0, .int .u32 0, .int .u32 0, .int .i64 0]
abbrev lstE (A : Option Addr) (m cap : Nat) (fc : Nat → Int) : LRow := lst A 27 m cap (fun i => .int .i64 (fc i))
def inT (s : TS) (i : Nat) : Nat := wordP (fun j => (s.p j).inn) i
def wantT (s : TS) (i : Nat) : Nat := wordP (fun j => decide (0 < (s.p j).ask)) i
theorem inT_next (s : TS) (i : Nat) : inT s (i + 1) = if (s.p i).inn = true then inT s i ||| 2 ^ i else inT s i := rfl
theorem wantT_next (s : TS) (i : Nat) : wantT s (i + 1) = if 0 < (s.p i).ask then wantT s i ||| 2 ^ i else wantT s i := by
  show (if decide (0 < (s.p i).ask) = true then _ else _) = _
  by_cases h : 0 < (s.p i).ask
  · rw [if_pos (by simpa using h), if_pos h]; rfl
  · rw [if_neg (by simpa using h), if_neg h]; rfl
theorem come_len {n f t k : Nat} {s : TS} (h : ∀ p, (s.way p).length ≤ k) (p : WQ) : ((comeS n f t s).2.way p).length ≤ k + 1 := by
  have hp := h p
  unfold comeS
  split
  · exact Nat.le_succ_of_le hp
  · rename_i x l hw
    have hl : ∀ p, (qput s.way (f, t) l p).length ≤ k := fun q => by
      rw [qp]; split
      · have := h (f, t); rw [hw] at this; simp at this; omega
      · exact h q
    have en : ∀ (i : Nat) (s : TS), (enterS n i s).way = s.way := fun i s => by unfold enterS; split <;> rfl
    show ((comeT n f t x l s).way p).length ≤ k + 1
    unfold comeT
    split
    · rw [en]; exact Nat.le_succ_of_le (hl p)
    · split
      · exact Nat.le_succ_of_le (hl p)
      · show (qput (qput s.way (f, t) l) (t, f) (qput s.way (f, t) l (t, f) ++ [0]) p).length ≤ k + 1
        rw [qp]; split
        · have := hl (t, f); simp; omega
        · exact Nat.le_succ_of_le (hl p)
theorem tu_len {n : Nat} {k f t : Int} {s : TS} {m : Nat} (h : ∀ p, (s.way p).length ≤ m) (p : WQ) : ((tuStep n k f t s).2.way p).length ≤ m + 1 := by
  have hp := h p
  have en : ∀ (i : Nat) (s : TS), (enterS n i s).way = s.way := fun i s => by unfold enterS; split <;> rfl
  unfold tuStep
  split
  · exact Nat.le_succ_of_le hp
  split
  · exact Nat.le_succ_of_le hp
  split
  · unfold wantS
    split
    · exact Nat.le_succ_of_le hp
    · rw [en]; exact asks_len h p
  split
  · exact come_len h p
  · unfold outS
    split
    · exact Nat.le_succ_of_le hp
    · exact leaves_len h p
theorem enter_ck {n i j : Nat} {s : TS} : ((enterS n i s).p j).ck = (s.p j).ck := by
  unfold enterS
  split
  · show (upd s.p i _ j).ck = _
    rw [upd_apply]; split
    · rename_i e; rw [e]
    · rfl
  · rfl
theorem tu_ck {n : Nat} {k f t : Int} {s : TS} {m : Int} (hm : 0 ≤ m) (h : ∀ i, (s.p i).ck ≤ m) (hx : ∀ p x, x ∈ s.way p → x ≤ m) : (∀ i, ((tuStep n k f t s).2.p i).ck ≤ m + 1) ∧ ∀ p x, x ∈ (tuStep n k f t s).2.way p → x ≤ m + 1 := by
  have en : ∀ (i : Nat) (s : TS), (enterS n i s).way = s.way := fun i s => by unfold enterS; split <;> rfl
  have h0 : (∀ i, (s.p i).ck ≤ m + 1) ∧ ∀ p x, x ∈ s.way p → x ≤ m + 1 := ⟨fun i => by have := h i; omega, fun p x hp => by have := hx p x hp; omega⟩
  have updc : ∀ (a : Nat) (o : One), o.ck ≤ m + 1 → ∀ i, (upd s.p a o i).ck ≤ m + 1 := fun a o ho i => by
    rw [upd_apply]; split
    · exact ho
    · exact h0.1 i
  unfold tuStep
  split
  · exact h0
  split
  · exact h0
  split
  · unfold wantS
    split
    · exact h0
    · refine ⟨fun i => ?_, fun p x hp => ?_⟩
      · show ((enterS n f.toNat (wantP f.toNat n s)).p i).ck ≤ m + 1
        rw [enter_ck]
        refine updc f.toNat _ ?_ i
        have := h f.toNat
        show (s.p f.toNat).ck + 1 ≤ m + 1
        omega
      · replace hp : x ∈ (enterS n f.toNat (wantP f.toNat n s)).way p := hp
        rw [en] at hp
        replace hp : x ∈ asksTo f.toNat n ((s.p f.toNat).ck + 1) s.way p := hp
        rw [asks_at] at hp
        split at hp
        · rcases List.mem_append.1 hp with hp | hp
          · exact h0.2 p x hp
          · have := h f.toNat
            simp at hp; omega
        · exact h0.2 p x hp
  split
  · unfold comeS
    split
    · exact h0
    · rename_i x l hw
      have hl : ∀ p y, y ∈ qput s.way (f.toNat, t.toNat) l p → y ≤ m := fun p y hy => by
        rw [qp] at hy; split at hy
        · exact hx (f.toNat, t.toNat) y (by rw [hw]; exact List.mem_cons_of_mem _ hy)
        · exact hx p y hy
      have hxx : x ≤ m := hx (f.toNat, t.toNat) x (by rw [hw]; exact List.mem_cons_self)
      have hct := h t.toNat
      show (∀ i, ((comeT n f.toNat t.toNat x l s).p i).ck ≤ m + 1) ∧ ∀ p y, y ∈ (comeT n f.toNat t.toNat x l s).way p → y ≤ m + 1
      unfold comeT
      split
      · refine ⟨fun i => ?_, fun p y hy => ?_⟩
        · rw [enter_ck]; exact updc t.toNat _ (by show (s.p t.toNat).ck ≤ m + 1; omega) i
        · rw [en] at hy
          have := hl p y hy; omega
      · split
        · exact ⟨updc t.toNat _ (by show max (s.p t.toNat).ck x ≤ m + 1; omega), fun p y hy => by have := hl p y hy; omega⟩
        · refine ⟨updc t.toNat _ (by show max (s.p t.toNat).ck x ≤ m + 1; omega), fun p y hy => ?_⟩
          replace hy : y ∈ qput (qput s.way (f.toNat, t.toNat) l) (t.toNat, f.toNat) (qput s.way (f.toNat, t.toNat) l (t.toNat, f.toNat) ++ [0]) p := hy
          rw [qp] at hy
          split at hy
          · rcases List.mem_append.1 hy with hy | hy
            · have := hl _ y hy; omega
            · simp at hy; omega
          · have := hl p y hy; omega
  · unfold outS
    split
    · exact h0
    · refine ⟨updc f.toNat _ (by have := h f.toNat; show (s.p f.toNat).ck ≤ m + 1; omega), fun p x hp => ?_⟩
      replace hp : x ∈ leavesTo f.toNat n (s.p f.toNat).wt s.way p := hp
      rw [leaves_at] at hp
      split at hp
      · rcases List.mem_append.1 hp with hp | hp
        · exact h0.2 p x hp
        · simp at hp; omega
      · exact h0.2 p x hp
theorem tuE_B (n : Nat) (M : Mv) : ∀ j : Nat, (∀ p, ((tuE n M j).way p).length ≤ j) ∧ (∀ i, ((tuE n M j).p i).ck ≤ (j : Int)) ∧ ∀ p x, x ∈ (tuE n M j).way p → x ≤ (j : Int)
  | 0 => ⟨fun _ => Nat.le_refl _, fun _ => Int.le_refl _, fun p x h => by simp [tuE, TS0] at h⟩
  | j + 1 => by
    obtain ⟨h1, h2, h3⟩ := tuE_B n M j
    have := tu_ck (n := n) (k := M.k j) (f := M.f j) (t := M.t j) (by omega) h2 h3
    exact ⟨tu_len h1, fun i => by have := this.1 i; exact_mod_cast this, fun p x h => by have := this.2 p x h; exact_mod_cast this⟩
theorem tuE_BT (n : Nat) (M : Mv) {j : Nat} (hj : j ≤ 60) : BT n (tuE n M j) := by
  obtain ⟨h1, h2, h3⟩ := tuE_B n M j
  obtain ⟨⟨num, hT⟩, _⟩ := tuE_J n M j
  exact ⟨fun p => by have := h1 p; omega, fun i => ⟨(hT.ckn i).1, by have := h2 i; omega⟩, hT.bits⟩
/-- What the loads of 't.Codes = append(t.Codes, a.do(m))' read. -/
def MvST (b q : Nat) (C : Value) (k f t v : Int) (w : World) : Prop :=
  w.cell? ⟨b, 0, none⟩ = some C ∧ w.cell? ⟨q, 0, none⟩ = some (.int .i64 k) ∧ w.cell? ⟨q, 1, none⟩ = some (.int .i64 f) ∧ w.cell? ⟨q, 2, none⟩ = some (.int .i64 t) ∧ w.cell? ⟨q, 3, none⟩ = some (.int .i64 v)
theorem MvST.of {w0 w : World} {L : List LRow} {b q : Nat} {C : Value} {l : List Value} {k f t v : Int} (h : Lay w0 w L) (i j : Nat) (hi : L[i]? = some (blkT b (C :: l))) (hj : L[j]? = some (mvB q k f t v)) : MvST b q C k f t v w :=
  ⟨h.cellB i hi 0 (by omega), h.cellB j hj 0 (by omega), h.cellB j hj 1 (by omega), h.cellB j hj 2 (by omega), h.cellB j hj 3 (by omega)⟩
section
variable (n : Nat) (w : World)
set_option maxRecDepth 100000 in
set_option maxHeartbeats 3200000 in
theorem tu_good (m cap B : Nat) (A : Option Addr) (M : Mv) (hn1 : 1 ≤ n) (hn : n ≤ 6) (hm : m ≤ 60) (hB : B ≤ w.heap.size) (hr : Rd w B A (m * 4) (mvF M)) :
    Calls Try.prog 9 #[.int .i64 n, .slice A m cap] w (Gives fun v w' => ∃ AC cC, v = .tuple #[.agg #[.slice AC m cC, .int .u32 (inT (tuE n M m) n : Nat), .int .u32 (wantT (tuE n M m) n : Nat), .int .i64 (wayLen n (tuE n M m).way : Nat)], .int .i64 0] ∧
      Lay w w' [lstE AC m cC (tuC n M)]) := by
  have HR := Lib.hid hr; clear hr
  obtain ⟨iE, hiE, hzE0, hzE1, hzE2⟩ := info_parts infoErrnoT
  obtain ⟨iO, hiO, hzO0, hzO1, hzO2⟩ := info_parts infoOneT
  have hmm := @run_makeMap Try.prog
  go_enter Try.func9, Try.ntmps9
  go_wp2_with (at_make; refine wpList_mkN rfl (.tmp 26) (.tmp 26) _ rfl 47 iO _ 5 32 Try.underlying41 hiO hzO0 hzO1 hzO2 .i64 .i64 n rfl rfl (by omega) (by unfold maxLen; omega) ?_; intro w2 he2
               have HL2 : Hid (Lay w w2 [onesR (w.heap.size + 1) n TS0, blkT w.heap.size zeroTL]) := Lib.hid (by
                 rw [he2]
                 refine ((Lay.nil w).newB zeroTL 26 4 rfl _ rfl).makeN _ n 5 (by unfold maxLen; omega) _ _ rfl (fun j _ => ?_) _ (by simp)
                 have h5 : j % 5 < 5 := Nat.mod_lt _ (by omega)
                 show oneV ⟨0, 0, false, 0, 0⟩ (j % 5) = _
                 rcases (show j % 5 = 0 ∨ j % 5 = 1 ∨ j % 5 = 2 ∨ j % 5 = 3 ∨ j % 5 = 4 by omega) with h | h | h | h | h <;> rw [h] <;> rfl)
               clear he2)
  have HL3 : Hid (∃ g gl bm br bt, g = w2.heap.size + 1 ∧ gl = w.heap.size + 1 ∧ bm = w2.heap.size ∧ br = w.heap.size ∧ bt = w2.heap.size + 1 + 1 ∧ LayT g gl bm n [lstE none 0 0 (tuC n M), blkT bt zeroTL, blkT br zeroTL] w (fun _ => .slice none 0 0) (tuE n M 0) (((w2.alloc (.map #[] 0)).alloc (.cells #[.slice (some ⟨gl, 0, none⟩) n n, .map (some bm)] 44)).alloc (.cells #[.slice none 0 0, .int .u32 0, .int .u32 0, .int .i64 0] 26))) :=
    Lib.hid ⟨_, _, _, _, _, rfl, rfl, rfl, rfl, rfl, (((((((HL2.out.toM.newM (wayE Try.prog 48 n (fun _ => .slice none 0 0)) (EMap.empty _ _ _ _ _).few _ rfl).newB [.slice (some ⟨_, 0, none⟩) n n, .map (some _)] 44 2 rfl _ (by simp)).newB zeroTL 26 4 rfl _ (by simp)).lnil 27 1 (fun k => .int .i64 (tuC n M k))).perm [2, 3, 0, 1, 4] (by decide) rfl).toQ tyT).sameQ fun a => rfl)⟩
  obtain ⟨g, gl, bm, br, bt, hg, hgl, hbm, hbr, hbt, hL⟩ := HL3.out
  rw [← hbt, ← hg, ← hbm, ← hgl, ← hbr]
  have HL4 := Lib.hid hL
  clear hL HL3 HL2 hg hgl hbm hbr hbt
  go_loopw [33] (fun v wr => ∃ (j : Nat) (f : WQ → Value), j ≤ m ∧ v = .int .i64 j ∧ ∃ AC cC, Hid (LayT g gl bm n [lstE AC j cC (tuC n M), blkT bt [.slice AC j cC, .int .u32 0, .int .u32 0, .int .i64 0], blkT br zeroTL] w f (tuE n M j) wr)) (fun v _ => m - (intOf v).toNat)
  case atStart => exact ⟨0, _, by omega, rfl, none, 0, HL4⟩
  case round =>
    clear HL4
    obtain ⟨j, f, hj, rfl, AC, cC, HQ⟩ := hrel
    by_cases hlt : j < m
    · obtain ⟨ad, rfl, hbl, m0, m1, m2, m3⟩ := (HR.out.below (HQ.out.lay.bel.mono hB)).rec4 hlt
      clear hbl
      go_wp2
      clear m0 m1 m2 m3
      have HQ1 := Lib.hid ((HQ.out.newB [.int .i64 (M.k j), .int .i64 (M.f j), .int .i64 (M.t j), .int .i64 (M.v j)] 35 4 rfl _ rfl).rot2)
      refine at_layQ (F := fun W' => Code.wp _ _ _ _ W') HQ1.out ?_
      intro W hW
      have HW : Hid (LayT g gl bm n [mvB wr.heap.size (M.k j) (M.f j) (M.t j) (M.v j), lstE AC j cC (tuC n M), blkT bt [.slice AC j cC, .int .u32 0, .int .u32 0, .int .i64 0], blkT br zeroTL] w f (tuE n M j) W) := Lib.hid hW
      clear hW HQ1 HQ
      generalize wr.heap.size = x at HW ⊢
      have hs : MvST bt x (.slice AC j cC) (M.k j) (M.f j) (M.t j) (M.v j) W := MvST.of HW.out.lay 4 2 rfl rfl
      refine wp_held_mask (MvST bt x (.slice AC j cC) (M.k j) (M.f j) (M.t j) (M.v j)) [true, true, true, true, false, false, false, false, false] ?A1 (by kernel_rfl) rfl (by kernel_rfl) (by repeat' (first | (with_reducible apply tame_then) | (with_reducible apply tame_block) | (with_reducible apply tame_scope) | exact tame_gives | exact tame_body (fun _ _ h => ⟨_, h.1⟩))) hs ?head ?tail
      case head =>
        intro W5 ⟨s0, s1, s2, s3, s4⟩
        simp only [pick]
        go_wp2
        exact taken
      case tail =>
        clear hs
        simp only [pick, List.map_cons, List.map_nil, Bool.not_true, Bool.not_false]
        refine tail_step ?_
        go_wp2_with fail
        refine (doT_any g gl bm n [mvB x (M.k j) (M.f j) (M.t j) (M.v j), lstE AC j cC (tuC n M), blkT bt [.slice AC j cC, .int .u32 0, .int .u32 0, .int .i64 0], blkT br zeroTL] w f (tuE n M j) _ (M.k j) (M.f j) (M.t j) (M.v j) hn (tuE_BT n M (by omega)) (by exact tu_sim HW.out ⟨rfl, rfl, rfl, rfl⟩)).mono ?_
        rintro e w3 ⟨rfl, f3, h3⟩
        have H3 : Hid (LayT g gl bm n [mvB x (M.k j) (M.f j) (M.t j) (M.v j), lstE AC j cC (tuC n M), blkT bt [.slice AC j cC, .int .u32 0, .int .u32 0, .int .i64 0], blkT br zeroTL] w f3 (tuE n M (j + 1)) w3) := Lib.hid h3
        clear h3 HW
        go_wp2
        refine holds (MvST.of H3.out.lay 4 2 rfl rfl) ?_
        refine tail_step ?_
        go_wp2
        refine holds (MvST.of (H3.out.lay.alloc _) 4 2 rfl rfl) ?_
        refine tail_step ?_
        refine wpList_ap1 rfl (.tmp 38) (.tmp 42) _ rfl 27 iE _ 8 Try.underlying23 hiE hzE0 hzE1 hzE2 rfl w.heap.size rfl ((H3.out.lay.alloc _).own 3 _ rfl) rfl (cell_new _ _ _ _ _ rfl (one_cell _)) (fun _ _ => rfl) (fun k => .int .i64 (tuC n M k)) (fun _ _ => rfl) (one_at rfl) (j + 1) rfl (by unfold maxLen; omega) (by omega) (by have := H3.out.size; simp; omega) ?_
        intro A2 cap2 w4 ho hg ha
        have H4 : Hid (LayT g gl bm n [mvB x (M.k j) (M.f j) (M.t j) (M.v j), lstE A2 (j + 1) cap2 (tuC n M), blkT bt [.slice AC j cC, .int .u32 0, .int .u32 0, .int .i64 0], blkT br zeroTL] w f3 (tuE n M (j + 1)) w4) := Lib.hid ((H3.out.alloc _).app 3 rfl ho hg ha)
        clear ho hg ha H3
        refine holds (MvST.of H4.out.lay 4 2 rfl rfl) ?_
        refine tail_step ?_
        go_wp2
        refine holds (MvST.of H4.out.lay 4 2 rfl rfl) ?_
        refine tail_last ?_
        have c0 := H4.out.lay.cellB 4 rfl 0 (by omega)
        have f0 := H4.out.lay.frz 4 rfl (by omega) 0
        simp only [ofL_0] at c0
        have H5 : Hid (LayT g gl bm n [lstE A2 (j + 1) cap2 (tuC n M), blkT bt [.slice A2 (j + 1) cap2, .int .u32 0, .int .u32 0, .int .i64 0], blkT br zeroTL] w f3 (tuE n M (j + 1)) (w4.setCell ⟨bt, 0, none⟩ (.slice A2 (j + 1) cap2))) := Lib.hid ((H4.out.fld 4 0 (.slice A2 (j + 1) cap2) rfl (by omega) (by simp)).drop2)
        go_wp2
        go_roundw
        case rel => exact ⟨j + 1, f3, by omega, by go_num, A2, cap2, H5⟩
        case measure => simp [intOf]; omega
    · obtain rfl : j = m := by omega
      have c0 := (tu_heads HQ.out).1
      have hT := tuE_J n M j
      generalize hss : tuE n M j = s at *
      have HQ0 : Hid (LayT g gl bm n [lstE AC j cC (tuC n M), blkT bt [.slice AC j cC, .int .u32 (inT s 0 : Nat), .int .u32 (wantT s 0 : Nat), .int .i64 0], blkT br zeroTL] w f s wr) := HQ
      clear HQ
      have HT := Lib.hid hT
      have HLN : Hid (∀ p, (s.way p).length ≤ 60) := Lib.hid fun p => by
        have := (tuE_B n M j).1 p
        rw [hss] at this; omega
      have HSS := Lib.hid hss
      clear hT hss
      go_wp2
      clear c0
      go_loopw [51] (fun v wr => ∃ i : Nat, i ≤ n ∧ v = .int .i64 i ∧ Hid (LayT g gl bm n [lstE AC j cC (tuC n M), blkT bt [.slice AC j cC, .int .u32 (inT s i : Nat), .int .u32 (wantT s i : Nat), .int .i64 0], blkT br zeroTL] w f s wr)) (fun v _ => n - (intOf v).toNat)
      case atStart => exact ⟨0, by omega, rfl, HQ0⟩
      case round =>
        clear HQ0
        obtain ⟨i, hi, rfl, HQ⟩ := hrel
        by_cases hlt : i < n
        · have HIN := Lib.hid (inT_next s i)
          have HWN := Lib.hid (wantT_next s i)
          have c0 := (tu_heads HQ.out).1
          obtain ⟨o0, o1, o2, o3, o4⟩ := tu_cells HQ.out hlt
          have li : inT s i < 2 ^ i := wordP_lt _ _
          have lw : wantT s i < 2 ^ i := wordP_lt _ _
          have l32 : 2 ^ i < 4294967296 := pow_lt32 (by omega)
          have hor1 := or_pow (a := inT s i) (m := i) (by omega) (by omega)
          have hor2 := or_pow (a := wantT s i) (m := i) (by omega) (by omega)
          have HN := Lib.hid ((HQ.out.newB [.int .i64 (s.p i).ck, .int .i64 (s.p i).ask, .bool (s.p i).inn, .int .u32 ((s.p i).hv : Nat), .int .u32 ((s.p i).wt : Nat)] 47 5 rfl _ rfl).rot2)
          clear li lw l32
          cases hin : (s.p i).inn
          · rw [hin] at o2 HN HIN
            clear hin
            by_cases ha : 0 < (s.p i).ask
            · rw [if_pos ha] at HWN
              go_wp2_with (fail)
              refine at_layQ (F := fun W' => Code.wp _ _ _ _ W') HN.out ?_
              intro W hW
              have HW := Lib.hid hW
              clear hW HN HQ c0 o0 o1 o2 o3 o4
              generalize wr.heap.size = x at HW ⊢
              have p1 := HW.out.lay.cellB 2 rfl 1 (by omega)
              have p2 := HW.out.lay.cellB 2 rfl 2 (by omega)
              simp only [ofL_1, ofL_2] at p1 p2
              have b2 := HW.out.lay.cellB 4 rfl 2 (by omega)
              have g2 := HW.out.lay.frz 4 rfl (by omega) 2
              simp only [ofL_2] at b2
              have H5 := Lib.hid ((HW.out.drew.fld 4 2 (.int .u32 (wantT s i ||| 2 ^ i : Nat)) rfl (by omega) (by simp)).drop2)
              go_wp2
              refine wp_text 6 (by kernel_rfl) (by kernel_rfl) (by kernel_rfl) (by repeat' (first | (with_reducible apply tame_then) | (with_reducible apply tame_block) | (with_reducible apply tame_scope) | exact tame_gives | exact tame_body (fun _ _ h => ⟨_, h.1⟩))) ?_
              simp only [List.take_succ_cons, List.take_zero, List.drop_succ_cons, List.drop_zero]
              go_wp2
              refine headed ?_
              go_wp2
              go_roundw
              case rel => exact ⟨i + 1, by omega, by go_num, by rw [HIN.out, HWN.out]; exact H5⟩
              case measure => simp [intOf]; omega
            · rw [if_neg ha] at HWN
              have H5 := Lib.hid (HN.out.drop2)
              go_wp2
              go_roundw
              case rel => exact ⟨i + 1, by omega, by go_num, by rw [HIN.out, HWN.out]; exact H5⟩
              case measure => simp [intOf]; omega
          · have hask := HT.out.apart hin
            rw [hin] at o2 HN HIN
            rw [hask] at o1 HN HWN
            clear hin hask
            go_wp2_with (fail)
            refine at_layQ (F := fun W' => Code.wp _ _ _ _ W') HN.out ?_
            intro W hW
            have HW := Lib.hid hW
            clear hW HN HQ c0 o0 o1 o2 o3 o4
            generalize wr.heap.size = x at HW ⊢
            have p1 := HW.out.lay.cellB 2 rfl 1 (by omega)
            have p2 := HW.out.lay.cellB 2 rfl 2 (by omega)
            simp only [ofL_1, ofL_2] at p1 p2
            have b1 := HW.out.lay.cellB 4 rfl 1 (by omega)
            have g1 := HW.out.lay.frz 4 rfl (by omega) 1
            have n24 := HW.out.lay.ne_ 2 4 rfl rfl (by omega)
            simp only [ofL_1] at b1
            have H5 := Lib.hid ((HW.out.drew.fld 4 1 (.int .u32 (inT s i ||| 2 ^ i : Nat)) rfl (by omega) (by simp)).drop2)
            go_wp2
            refine wp_text 6 (by kernel_rfl) (by kernel_rfl) (by kernel_rfl) (by repeat' (first | (with_reducible apply tame_then) | (with_reducible apply tame_block) | (with_reducible apply tame_scope) | exact tame_gives | exact tame_body (fun _ _ h => ⟨_, h.1⟩))) ?_
            simp only [List.take_succ_cons, List.take_zero, List.drop_succ_cons, List.drop_zero]
            go_wp2
            refine headed ?_
            go_wp2
            go_roundw
            case rel => exact ⟨i + 1, by omega, by go_num, by rw [HIN.out, HWN.out]; exact H5⟩
            case measure => simp [intOf]; omega
        · obtain rfl : i = n := by omega
          obtain ⟨es, c, hb, hφ⟩ := HQ.out.mp 0 rfl
          have HPH := Lib.hid hφ
          have hst := hφ.stamped
          have c1 := (tu_heads HQ.out).2
          have HSUM : Hid ((es.toList.map fun e => lenV e.val).sum = wayLen i s.way) := Lib.hid (way_sum hφ fun p => by
            obtain ⟨A, cap, hf, _⟩ := HQ.out.len p
            rw [hf]
            exact vI_len _)
          have hwl : wayLen i s.way ≤ 2160 := by
            have h1 := sum_le (g := fun p => (s.way p).length) (B := 60) (l := pairs i) fun p _ => HLN.out p
            rw [pairs_len] at h1
            have h2 := Nat.mul_le_mul hn hn
            unfold wayLen; omega
          have HI0 := Lib.hid (HQ.out.alloc (.mapIter (some bm) c #[] c))
          have hrz : w.heap.size ≤ wr.heap.size := HQ.out.size
          clear hφ HQ
          go_wp2_with (first
            | (at_range; refine wpList_rangeE rfl (.tmp 77) _ rfl Try.underlying42 rfl hb ?_; intro w5 hw5 hrg5; have HR5 := Lib.hid hrg5; have HM5 : Hid (LayT g gl bm i _ w f s w5) := Lib.hid (by rw [hw5]; exact HI0.out); clear hw5 hrg5)
            | fail)
          clear hb c1 HI0
          generalize wr.heap.size = r at HR5 hrz ⊢
          try go_frame
          go_loopw [] (fun wr => ∃ (seen : Array Nat), Hid (Rng wr bm r es c seen) ∧ Hid (LayT g gl bm i [lstE AC j cC (tuC i M), blkT bt [.slice AC j cC, .int .u32 (inT s i : Nat), .int .u32 (wantT s i : Nat), .int .i64 (seenF (fun e => lenV e.val) es.toList seen : Nat)], blkT br zeroTL] w f s wr)) (fun wr => wr.rangeLeft bm r)
          case atStart => exact ⟨#[], HR5, by rw [seenF_none]; exact HM5⟩
          case round =>
            clear HR5 HM5
            obtain ⟨seen, HR3, HM⟩ := hrel
            go_wp2_with (first
              | (at_next; refine wpList_nextE rfl (.tmp 78) rfl rfl HR3.out hst ?_ ?_)
              | fail)
            · intro h0'
              have h0 : (leftOf es seen).size = 0 := by simpa using h0'
              have HA : Hid (seenF (fun e => lenV e.val) es.toList seen = wayLen i s.way) := Lib.hid (by
                rw [← HSUM.out]
                exact seenF_all fun x hx => all_seen es seen h0 x hx)
              clear h0 h0'
              have b0 := HM.out.lay.cellB 3 rfl 0 (by omega)
              have b1 := HM.out.lay.cellB 3 rfl 1 (by omega)
              have b2 := HM.out.lay.cellB 3 rfl 2 (by omega)
              have b3 := HM.out.lay.cellB 3 rfl 3 (by omega)
              have r0 := HM.out.lay.cellB 4 rfl 0 (by omega)
              have r1 := HM.out.lay.cellB 4 rfl 1 (by omega)
              have r2 := HM.out.lay.cellB 4 rfl 2 (by omega)
              have r3 := HM.out.lay.cellB 4 rfl 3 (by omega)
              simp only [ofL_0, ofL_1, ofL_2, ofL_3] at b0 b1 b2 b3 r0 r1 r2 r3
              rw [HA.out] at b3
              have f0 := HM.out.lay.frz 4 rfl (by omega) 0
              have f1 := HM.out.lay.frz 4 rfl (by omega) 1
              have f2 := HM.out.lay.frz 4 rfl (by omega) 2
              have f3 := HM.out.lay.frz 4 rfl (by omega) 3
              have HF := Lib.hid ((((HM.out.fld 4 0 (.slice AC j cC) rfl (by omega) (by simp)).fld 4 1 (.int .u32 (inT s i : Nat)) rfl (by omega) (by simp)).fld 4 2 (.int .u32 (wantT s i : Nat)) rfl (by omega) (by simp)).fld 4 3 (.int .i64 (wayLen i s.way : Nat)) rfl (by omega) (by simp))
              go_wp2
              have HF2 := HF.out
              clear b0 b1 b2 b3 r0 r1 r2 r3 f0 f1 f2 f3 HF HM HR3
              generalize (((wr.setCell ⟨br, 0, none⟩ (.slice AC j cC)).setCell ⟨br, 1, none⟩ (.int .u32 (inT s i : Nat))).setCell ⟨br, 2, none⟩ (.int .u32 (wantT s i : Nat))).setCell ⟨br, 3, none⟩ (.int .i64 (wayLen i s.way : Nat)) = W8 at HF2 ⊢
              have r0 : W8.cell? ⟨br, 0, none⟩ = some (.slice AC j cC) := HF2.lay.cellB 4 rfl 0 (by omega)
              have r1 : W8.cell? ⟨br, 1, none⟩ = some (.int .u32 (inT s i : Nat)) := HF2.lay.cellB 4 rfl 1 (by omega)
              have r2 : W8.cell? ⟨br, 2, none⟩ = some (.int .u32 (wantT s i : Nat)) := HF2.lay.cellB 4 rfl 2 (by omega)
              have r3 : W8.cell? ⟨br, 3, none⟩ = some (.int .i64 (wayLen i s.way : Nat)) := HF2.lay.cellB 4 rfl 3 (by omega)
              exact bodyPost_ret (v := .tuple #[.agg #[.slice AC j cC, .int .u32 (inT s i : Nat), .int .u32 (wantT s i : Nat), .int .i64 (wayLen i s.way : Nat)], .int .i64 0]) (by simp [results, Try.results9, go_sem, r0, r1, r2, r3]) rfl ⟨_, rfl, AC, cC, by rw [HSS.out], HF2.lay.perm [2] (by decide) rfl⟩
            · intro e w6 hem' hns hrg hlt hgr hsz hen
              have hem : e ∈ es.toList := by simpa using hem'
              obtain ⟨a, ha, hk⟩ := HPH.out.dom e hem
              obtain ⟨AA, cp, hfa, hcp, _⟩ := HM.out.len a
              have hev : e.val = .slice AA (s.way a).length cp := by
                rw [← HPH.out.val e hem a hk, hfa]
                show Value.slice AA (vI (s.way a)).length cp = _
                rw [vI_len]
              have hl60 := HLN.out a
              have HR6 := Lib.hid hrg
              have HM6 := Lib.hid (HM.out.turned hgr HR3.out hrz)
              have HLQ : Hid (wr.rangeLeft bm r = (leftOf es seen).size) := Lib.hid HR3.out.left_eq
              have HLT2 := Lib.hid hlt
              have HPU : Hid (seenF (fun e => lenV e.val) es.toList (seen.push e.born) = seenF (fun e => lenV e.val) es.toList seen + (s.way a).length) := Lib.hid (by
                rw [seenF_push (by simpa using hns) ((stamped_iff es c).1 hst).2.1 hem]
                show _ + lenV e.val = _
                rw [hev]; rfl)
              have hsl : seenF (fun e => lenV e.val) es.toList seen ≤ 2160 := by
                have h1 := seenF_le (fun e => lenV e.val) seen es.toList
                rw [HSUM.out] at h1
                exact Nat.le_trans h1 hwl
              rw [hev, hk] at hen ⊢
              generalize seen.push e.born = seen2 at *
              generalize seenF (fun e => lenV e.val) es.toList seen = k0 at *
              have b3 := HM6.out.lay.cellB 3 rfl 3 (by omega)
              have f3 := HM6.out.lay.frz 3 rfl (by omega) 3
              simp only [ofL_3] at b3
              have H7 : Hid (LayT g gl bm i [lstE AC j cC (tuC i M), blkT bt [.slice AC j cC, .int .u32 (inT s i : Nat), .int .u32 (wantT s i : Nat), .int .i64 ((k0 : Int) + ((s.way a).length : Int))], blkT br zeroTL] w f s (w6.setCell ⟨bt, 3, none⟩ (.int .i64 ((k0 : Int) + ((s.way a).length : Int))))) := Lib.hid (HM6.out.fld 3 3 (.int .i64 ((k0 : Int) + ((s.way a).length : Int))) rfl (by omega) (by simp))
              have HR7 : Hid (Rng (w6.setCell ⟨bt, 3, none⟩ (.int .i64 ((k0 : Int) + ((s.way a).length : Int)))) bm r es c seen2) := Lib.hid (HR6.out.onCell HM6.out.lay 3 rfl)
              unfold keyQ at hen
              unfold keyQ
              clear hrg hgr hns hlt hk hem hem' HM HR3 hev hfa HM6 HR6
              go_wp2
              go_roundw
              case rel => exact ⟨seen2, HR7, by rw [HPU.out, Int.natCast_add]; exact H7⟩
              case measure => rw [HR7.out.left_eq, HLQ.out]; exact HLT2.out
end
end Go.Proofs.Ytihkbkbbllmliaa
