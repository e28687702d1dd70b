/- The walk of snap.Play. -/
import Derived.Test.YtfcgjmekeonemaaSn3
import Derived.Test.YtfcgjmekeonemaaNew
import Derived.BigRegion
import Derived.Deep.CutRange
import Derived.Deep.CutBlock
set_option linter.unusedVariables false
set_option linter.unusedSimpArgs false
namespace Go.Proofs.Ytfcgjmekeonemaa
open Go.RowKit Go.Maps Go.MapKept

theorem infoErrnoN : (Try.prog.info? 27).map (fun i => (i.zero, i.size, i.bytes)) = some (some (.int .i64 0), 1, 8) := by kernel_rfl
theorem infoBoolN : (Try.prog.info? 4).map (fun i => (i.zero, i.size, i.bytes)) = some (some (.bool false), 1, 1) := by kernel_rfl
theorem infoSlN : (Try.prog.info? 34).map (fun i => (i.zero, i.size, i.bytes)) = some (some (.slice none 0 0), 1, 24) := by kernel_rfl
abbrev blkS (b : Nat) (l : List Value) : LRow := blk b 37 4 (ofL l)
abbrev zeroSL : List Value := [.slice none 0 0, .bool false, .slice none 0 0, .slice none 0 0]
abbrev lstE (A : Option Addr) (m cap : Nat) (fc : Nat → Int) : LRow := lst A 27 m cap (fun i => .int .i64 (fc i))
/-- Ahead of the moves, with i rows made. -/
def SNi (i : Nat) : SN := { SN0 with have_ := fun j => if j < i then 100 else 0 }
def qIn (n i : Nat) : FQ → List Value
  | .inl _ => []
  | .inr j => if j < i then vI ((List.range n).map fun _ => 0) else []
abbrev hd0 (g gh gr bm bc n : Nat) : LRow := blk g 54 9 (ofL [.int .i64 n, .slice (some ⟨gh, 0, none⟩) n n, .map (some bm), .slice (some ⟨gr, 0, none⟩) n n, .map (some bc), .slice none 0 0, .bool false, .slice none 0 0, .slice none 0 0])
def newsN (n : Nat) (i : Nat) : NSpec := ([.val (.int .i64 n), .val (.int .i64 n), .new (fun g => .slice (some ⟨g, 0, none⟩) n n) (.cells (madeCells #[.int .i64 0] n) 3), .new (fun g => .map (some g)) (.map #[] 0), .val (.int .i64 n),
  .new (fun g => .slice (some ⟨g, 0, none⟩) n n) (.cells (madeCells #[.bool false] n) 4), .new (fun g => .map (some g)) (.map #[] 0)] : List NSpec).getD i (.val undef)
theorem nspec_map {P : Program} {o : Oper} {a : Act} {w : World} (t : TypeId) (ho : o.op = .makeMap t none) {k e : TypeId} (ht : P.underlying t = some (.map k e)) : (NSpec.new (fun g => .map (some g)) (.map #[] 0)).Run P o a w := by
  show (execOp a.eval o).run P w = _
  simp only [execOp, ho]
  rfl
theorem pairs_nodup (n : Nat) : (pairs n).Nodup := by
  unfold pairs
  rw [List.Nodup, List.pairwise_flatMap]
  refine ⟨fun i _ => ?_, ?_⟩
  · rw [List.pairwise_map]
    exact List.nodup_range.imp fun h e => h (Prod.mk.inj e).2
  · refine List.nodup_range.imp fun h x hx y hy e => ?_
    obtain ⟨_, _, rfl⟩ := List.mem_map.1 hx
    obtain ⟨_, _, rfl⟩ := List.mem_map.1 hy
    exact h (Prod.mk.inj e).1
theorem cntC_size {n : Nat} {c : Nat × Nat → Bool} {es : Array MapEntry} {cl : Nat} (h : closedE n c es cl) : es.size = cntC n c := by
  have hnd := ((stamped_iff es cl).1 h.1.stamped).2.2
  have hnd : (es.toList.map (·.key)).Nodup := by
    rw [List.Nodup, List.pairwise_map]
    exact hnd
  have h1 : es.toList.map (·.key) ⊆ ((pairs n).filter c).map keyQ := by
    intro x hx
    obtain ⟨y, hy, rfl⟩ := List.mem_map.1 hx
    obtain ⟨a, ha, hk⟩ := h.1.dom y hy
    exact List.mem_map.2 ⟨a, List.mem_filter.2 ⟨mem_pairs.2 (h.2 a ha), ha⟩, hk.symm⟩
  have h2 : ((pairs n).filter c).map keyQ ⊆ es.toList.map (·.key) := by
    intro x hx
    obtain ⟨a, ha, rfl⟩ := List.mem_map.1 hx
    have ha := (List.mem_filter.1 ha).2
    by_cases hex : ∃ y ∈ es.toList, y.key = keyQ a
    · obtain ⟨y, hy, hk⟩ := hex
      exact List.mem_map.2 ⟨y, hy, hk⟩
    · have := h.1.none_ a fun y hy hk => hex ⟨y, hy, hk⟩
      rw [ha] at this
      injection this with this
      cases this
  have hnp : (((pairs n).filter c).map keyQ).Nodup := by
    rw [List.Nodup, List.pairwise_map]
    exact (List.Pairwise.filter _ (pairs_nodup n)).imp fun h e => h (keyQ_inj _ _ e)
  have e1 := hnd.length_le_of_subset h1
  have e2 := hnp.length_le_of_subset h2
  rw [List.length_map, List.length_map] at e1 e2
  unfold cntC
  have : es.toList.length = es.size := Array.length_toList
  omega
theorem run_mkIntN (w : World) (n : Nat) (hn : n ≤ 6) : (Instr.makeSlice 34 (.int .i64 n) (.int .i64 n)).run Try.prog w = .ok (.slice (some ⟨w.heap.size, 0, none⟩) n n) (w.alloc (.cells (madeCells #[Value.int .i64 0] n) 3)) := by
  obtain ⟨i0, hi0, hz0, hz1, hz2⟩ := info_parts infoIntN
  have := run_make (P := Try.prog) w 34 3 i0 (.int .i64 0) Try.underlying34 hi0 hz0 .i64 .i64 n n (by omega) (by omega) (by rw [hz2]; omega) (by omega)
  simpa [hz1, Value.cells] using this
theorem run_mkSlN (w : World) (n : Nat) (hn : n ≤ 6) : (Instr.makeSlice 35 (.int .i64 n) (.int .i64 n)).run Try.prog w = .ok (.slice (some ⟨w.heap.size, 0, none⟩) n n) (w.alloc (.cells (madeCells #[Value.slice none 0 0] n) 34)) := by
  obtain ⟨i0, hi0, hz0, hz1, hz2⟩ := info_parts infoSlN
  have := run_make (P := Try.prog) w 35 34 i0 (.slice none 0 0) Try.underlying35 hi0 hz0 .i64 .i64 n n (by omega) (by omega) (by rw [hz2]; omega) (by omega)
  simpa [hz1, Value.cells] using this
theorem start_q {w0 w : World} {g gh gr gk gw bm bc br n : Nat} (h : LayM w0 w [hdN g gh gr gk gw bm bc n (.slice none 0 0) (.bool false), arr gh 3 n (fun _ => .int .i64 0), arr gr 4 n (fun _ => .bool false), arr gk 3 n (fun _ => .int .i64 0), arr gw 34 n (fun _ => .slice none 0 0), blkS br zeroSL]
    [⟨bm, wayE Try.prog 47 n (fun _ => .slice none 0 0)⟩, ⟨bc, closedE n (fun _ => false)⟩]) : LayQ w0 w (rowsN g gh gr gk gw bm bc n (.slice none 0 0) (.bool false) (fun _ => .slice none 0 0) (SNi 0) [blkS br zeroSL]) (mapsN bm bc n (fun _ => .slice none 0 0) SN0) tyI (fun _ => .slice none 0 0) (qIn n 0) := by
  have h1 := h.congr 1 (fun i => .int .i64 ((SNi 0).have_ i)) rfl (fun j _ => by show Value.int .i64 0 = .int .i64 (if j < 0 then 100 else 0); rw [if_neg (by omega)])
  exact (h1.toQ tyI).sameQ fun a => by
    rcases a with a | a
    · rfl
    · show (if a < 0 then vI ((List.range n).map fun _ => 0) else []) = []
      rw [if_neg (by omega)]
theorem fput_inl2 (f : FQ → Value) (i : Nat) (v : Value) : (fun p => fput f (.inr i) v (.inl p)) = fun p => f (.inl p) := funext fun p => fput_ne (by simp)
theorem make_q {w0 w : World} {L : List LRow} {Q : List MRow} {f : FQ → Value} {q : FQ → List Value} (h : LayQ w0 w L Q tyI f q) (i n : Nat) (hn : n ≤ maxLen) :
    LayQ w0 (w.alloc (.cells (madeCells #[Value.int .i64 0] n) 3)) L Q tyI (fput f (.inr i) (.slice (some ⟨w.heap.size, 0, none⟩) n n)) (qput q (.inr i) (vI ((List.range n).map fun _ => 0))) := by
  refine h.push (.inr i) ?_ ⟨rfl, rfl, rfl, by simp, fun k hk _ => heap_alloc_old w _ hk⟩ (.inr rfl)
  have hl : (vI ((List.range n).map fun _ => (0 : Int))).length = n := by rw [vI_len]; simp
  refine .inr ⟨w.heap.size, 0, n, _, by rw [hl], h.size, heap_alloc_new w _, by rw [hl]; exact Nat.le_refl _, hn, ?_, ?_⟩
  · have := size_madeCells #[Value.int .i64 0] n
    omega
  · rw [hl, List.drop_zero]
    have : (madeCells #[Value.int .i64 0] n).toList = List.replicate n (Value.int .i64 0) := toList_madeCells_one (.int .i64 0) n
    rw [this, List.take_of_length_le (by simp)]
    apply List.ext_getElem?
    intro k
    simp only [vI, List.map_map]
    rw [List.getElem?_replicate, List.getElem?_map]
    by_cases hk : k < n
    · rw [if_pos hk, List.getElem?_range hk]; rfl
    · rw [if_neg hk, List.getElem?_eq_none (by simpa using hk)]; rfl
theorem inner_q {w0 w : World} {g gh gr gk gw bm bc n i : Nat} {C D v : Value} {f : FQ → Value} {s : SN} {R : List LRow} {q : FQ → List Value} (hi : i < n) (h : LayQ w0 w (rowsN g gh gr gk gw bm bc n C D f s R) (mapsN bm bc n f SN0) tyI (fput f (.inr i) v) (qput q (.inr i) (vI ((List.range n).map fun _ => 0))))
    (hq : q = qIn n i) : LayQ w0 (w.setCell ⟨gw, i, none⟩ v) (rowsN g gh gr gk gw bm bc n C D (fput f (.inr i) v) s R) (mapsN bm bc n (fput f (.inr i) v) SN0) tyI (fput f (.inr i) v) (qIn n (i + 1)) := by
  have h1 := h.set 4 (fun j => fput f (.inr i) v (.inr j)) rfl (show i < n * 1 by omega) (fput_same _ _ _) (fun j _ hj => fput_ne (fun e => hj (Sum.inr.inj e)))
  have h2 := h1.sameQ (q' := qIn n (i + 1)) fun a => by
    subst hq
    rcases a with p | a
    · rw [qput_ne (by simp)]; rfl
    · by_cases e : a = i
      · subst e
        rw [qput_same]
        exact if_pos (Nat.lt_succ_self _)
      · rw [qput_ne (fun h => e (Sum.inr.inj h))]
        show (if a < i + 1 then vI ((List.range n).map fun _ => 0) else []) = if a < i then vI ((List.range n).map fun _ => 0) else []
        by_cases h3 : a < i
        · rw [if_pos h3, if_pos (by omega)]
        · rw [if_neg h3, if_neg (by omega)]
  unfold mapsN
  rw [fput_inl2]
  exact h2
/-- What the loads of 'p.out.Codes = append(p.out.Codes, p.do(m))' read. -/
def MvSN (g q : Nat) (C : Value) (k f t v : Int) (w : World) : Prop :=
  w.cell? ⟨g, 5, none⟩ = some C ∧ w.cell? ⟨q, 0, none⟩ = some (.int .i64 k) ∧ w.cell? ⟨q, 1, none⟩ = some (.int .i64 f) ∧ w.cell? ⟨q, 2, none⟩ = some (.int .i64 t) ∧ w.cell? ⟨q, 3, none⟩ = some (.int .i64 v)
theorem MvSN.of {w0 w : World} {L : List LRow} {g gh gr gk gw bm bc n q : Nat} {C D : Value} {k f t v : Int} (h : Lay w0 w L) (i j : Nat) (hi : L[i]? = some (hdN g gh gr gk gw bm bc n C D)) (hj : L[j]? = some (mvB q k f t v)) : MvSN g q C k f t v w :=
  ⟨h.cellB i hi 5 (by omega), h.cellB j hj 0 (by omega), h.cellB j hj 1 (by omega), h.cellB j hj 2 (by omega), h.cellB j hj 3 (by omega)⟩
/-- What the loads of 'p.out.Way[i] = make([]int, n)' read. -/
def RowS (g gw n : Nat) (w : World) : Prop := w.cell? ⟨g, 8, none⟩ = some (.slice (some ⟨gw, 0, none⟩) n n)
section
variable (n : Nat) (w : World)
set_option maxRecDepth 100000 in
set_option maxHeartbeats 3200000 in
theorem sn_good (m cap B : Nat) (A : Option Addr) (M : Mv) (hn1 : 1 ≤ n) (hn : n ≤ 6) (hm : m ≤ 60) (hB : B ≤ w.heap.size) (hr : Rd w B A (m * 4) (mvF M)) :
    Calls Try.prog 11 #[.int .i64 n, .slice A m cap] w (Gives fun v w' => ∃ g gh gr gk gw bm bc br f AC cC, v = .tuple #[.agg #[.slice AC m cC, .bool (snDone n (snE n M m)), .slice (some ⟨gk, 0, none⟩) n n, .slice (some ⟨gw, 0, none⟩) n n], .int .i64 0] ∧
      LayN g gh gr gk gw bm bc n (.slice AC m cC) (.bool (snDone n (snE n M m))) [lstE AC m cC (snC n M), blkS br [.slice AC m cC, .bool (snDone n (snE n M m)), .slice (some ⟨gk, 0, none⟩) n n, .slice (some ⟨gw, 0, none⟩) n n]] w f (snE n M m) w') := by
  have HR := Lib.hid hr; clear hr
  obtain ⟨iE, hiE, hzE0, hzE1, hzE2⟩ := info_parts infoErrnoN
  obtain ⟨iI, hiI, hzI0, hzI1, hzI2⟩ := info_parts infoIntN
  obtain ⟨iB, hiB, hzB0, hzB1, hzB2⟩ := info_parts infoBoolN
  obtain ⟨iS, hiS, hzS0, hzS1, hzS2⟩ := info_parts infoSlN
  go_enter Try.func11, Try.ntmps11
  go_upto_region 3 with (fail)
  refine at_world (F := fun W' => Code.wp _ _ _ _ W') (fun W => Lay w W [blkS w.heap.size zeroSL]) ((Lay.nil w).newB _ _ _ rfl _ rfl) ?_
  intro W hW
  have HW := Lib.hid hW
  clear hW
  refine wp_news [0, 1, 2, 3, 4, 5, 6] [24, 25, 26, 27, 28, 29, 30] [7, 8, 9] 7 (newsN n) (by kernel_rfl) (by kernel_rfl) rfl (by decide) rfl (by kernel_rfl) ?ext ?fin
  case ext =>
    intro i hi o ho a w1 hb hold hf
    simp only [List.mem_cons, List.not_mem_nil, or_false] at hi
    rcases hi with rfl | rfl | rfl | rfl | rfl | rfl | rfl
    all_goals cases ho
    · exact nspec_move _ rfl (eval_tmp (hold 0 (by decide)))
    · exact nspec_move _ rfl (eval_tmp (hold 0 (by decide)))
    · exact nspec_mk _ _ rfl _ iI _ _ Try.underlying34 hiI hzI0 hzI1 hzI2 (eval_tmp (hf 1 25 _ rfl rfl rfl)) (by omega) (by omega)
    · exact nspec_map _ rfl Try.underlying50
    · exact nspec_move _ rfl (eval_tmp (hold 0 (by decide)))
    · exact nspec_mk _ _ rfl _ iB _ _ Try.underlying51 hiB hzB0 hzB1 hzB2 (eval_tmp (hf 4 28 _ rfl rfl rfl)) (by omega) (by omega)
    · exact nspec_map _ rfl Try.underlying52
  case fin =>
    intro y γ w2 hb hy hap
    have y0 : y 0 = .int .i64 n := hy 0 (by decide)
    have y1 : y 1 = .int .i64 n := hy 1 (by decide)
    have y4 : y 4 = .int .i64 n := hy 4 (by decide)
    obtain ⟨y2, l2, o2⟩ := hy 2 (by decide)
    obtain ⟨y3, l3, o3⟩ := hy 3 (by decide)
    obtain ⟨y5, l5, o5⟩ := hy 5 (by decide)
    obtain ⟨y6, l6, o6⟩ := hy 6 (by decide)
    have n25 := hap 2 (by decide) 5 (by decide) (by decide) rfl rfl
    have n36 := hap 3 (by decide) 6 (by decide) (by decide) rfl rfl
    simp only [List.drop_succ_cons, List.drop_zero, List.zip_cons_cons, List.zip_nil_right, List.foldl_cons, List.foldl_nil, y0, y1, y2, y3, y4, y5, y6]
    simp only [Act.put, List.setIfInBounds_toArray, List.set_cons_zero, List.set_cons_succ]
    generalize γ 2 = gh at l2 o2 n25 ⊢
    generalize γ 5 = gr at l5 o5 n25 ⊢
    generalize γ 3 = bm at l3 o3 n36 ⊢
    generalize γ 6 = bc at l6 o6 n36 ⊢
    have HL : Hid (LayM w w2 ([arr gh 3 n (fun _ => .int .i64 0), arr gr 4 n (fun _ => .bool false)] ++ [blkS w.heap.size zeroSL]) [⟨bm, wayE Try.prog 47 n (fun _ => .slice none 0 0)⟩, ⟨bc, closedE n (fun _ => false)⟩]) := by
      refine ⟨HW.out.rows hb _ (fun r hr => ?_) (by simp [ablock]; omega), fun i q hi => ?_, fun i j q r hij hi hj => ?_⟩
      · simp only [List.mem_cons, List.not_mem_nil, or_false] at hr
        rcases hr with rfl | rfl
        · exact ⟨HW.out.arr_at (z := .int .i64 0) (n := n) rfl l2 o2 (by unfold maxLen; omega) (fun _ _ => rfl), gh, rfl, l2⟩
        · exact ⟨HW.out.arr_at (z := .bool false) (n := n) rfl l5 o5 (by unfold maxLen; omega) (fun _ _ => rfl), gr, rfl, l5⟩
      · have hs := HW.out.size
        rcases i with _ | _ | i
        · obtain rfl : _ = q := by simpa using hi
          exact ⟨Nat.le_trans hs l3, #[], 0, o3, (EMap.empty _ _ _ _ _).few⟩
        · obtain rfl : _ = q := by simpa using hi
          exact ⟨Nat.le_trans hs l6, #[], 0, o6, EMap.empty _ _ _ _ _, fun p hp => by cases hp⟩
        · simp at hi
      · rcases i with _ | _ | i
        · obtain rfl : _ = q := by simpa using hi
          rcases j with _ | _ | j
          · exact absurd rfl hij
          · obtain rfl : _ = r := by simpa using hj
            exact n36
          · simp at hj
        · obtain rfl : _ = q := by simpa using hi
          rcases j with _ | _ | j
          · obtain rfl : _ = r := by simpa using hj
            exact fun e => n36 e.symm
          · exact absurd rfl hij
          · simp at hj
        · simp at hi
    clear o2 o3 o5 o6 n25 n36 l2 l3 l5 l6 y0 y1 y2 y3 y4 y5 y6 hap hy hb HW
    go_wp2
    have HG := Lib.hid ((HL.out.newB [.int .i64 n, .slice (some ⟨gh, 0, none⟩) n n, .map (some bm), .slice (some ⟨gr, 0, none⟩) n n, .map (some bc), .slice none 0 0, .bool false, .slice none 0 0, .slice none 0 0] 54 9 rfl _ rfl))
    refine at_layM (F := fun W' => Code.wp _ _ _ _ W') HG.out ?_
    intro W hW
    have HW : Hid (LayM w W [hd0 w2.heap.size gh gr bm bc n, arr gh 3 n (fun _ => .int .i64 0), arr gr 4 n (fun _ => .bool false), blkS w.heap.size zeroSL] [⟨bm, wayE Try.prog 47 n (fun _ => .slice none 0 0)⟩, ⟨bc, closedE n (fun _ => false)⟩]) := Lib.hid hW
    clear hW HG HL
    generalize w2.heap.size = g at HW ⊢
    generalize w.heap.size = br at HW ⊢
    go_cut [] from 33 to 44 (fun wx => ∃ gk gw, Hid (LayQ w wx (rowsN g gh gr gk gw bm bc n (.slice none 0 0) (.bool false) (fun _ => .slice none 0 0) (SNi 0) [blkS br zeroSL]) (mapsN bm bc n (fun _ => .slice none 0 0) SN0) tyI (fun _ => .slice none 0 0) (qIn n 0)))
    case first =>
      have hmk := fun w => run_mkIntN w n hn
      have hmk2 := fun w => run_mkSlN w n hn
      have hg := (HW.out.lay.at_ 0 rfl).2
      have c7 := HW.out.lay.cellB 0 rfl 7 (by omega)
      have c8 := HW.out.lay.cellB 0 rfl 8 (by omega)
      have f7 := HW.out.lay.frz 0 rfl (by omega) 7
      have f8 := HW.out.lay.frz 0 rfl (by omega) 8
      simp only [ofL_7, ofL_8] at c7 c8
      go_region
      all_goals
        go_wp2
        go_meet
        first
        | exact ⟨W.heap.size, W.heap.size + 1, Lib.hid (start_q (((((HW.out.fld 0 7 (.slice (some ⟨W.heap.size, 0, none⟩) n n) rfl (by omega) (by simp)).fld 0 8 (.slice (some ⟨W.heap.size + 1, 0, none⟩) n n) rfl (by omega) (by simp)).make (.int .i64 0) rfl n (by unfold maxLen; omega) 3 (fun _ => .int .i64 0) (fun _ _ => rfl) W.heap.size (by simp)).make (.slice none 0 0) rfl n (by unfold maxLen; omega) 34 (fun _ => .slice none 0 0) (fun _ _ => rfl) (W.heap.size + 1) (by simp)).perm [2, 3, 4, 1, 0, 5] (by decide) rfl).drew)⟩
        | exact ⟨W.heap.size + 1, W.heap.size, Lib.hid (start_q (((((HW.out.fld 0 7 (.slice (some ⟨W.heap.size + 1, 0, none⟩) n n) rfl (by omega) (by simp)).fld 0 8 (.slice (some ⟨W.heap.size, 0, none⟩) n n) rfl (by omega) (by simp)).make (.slice none 0 0) rfl n (by unfold maxLen; omega) 34 (fun _ => .slice none 0 0) (fun _ _ => rfl) W.heap.size (by simp)).make (.int .i64 0) rfl n (by unfold maxLen; omega) 3 (fun _ => .int .i64 0) (fun _ _ => rfl) (W.heap.size + 1) (by simp)).perm [2, 3, 4, 0, 1, 5] (by decide) rfl).drew)⟩
    case rest =>
      obtain ⟨gk, gw, HQ0⟩ := hcut
      clear HW
      go_wp2
      go_loopw [46] (fun v wr => ∃ (i : Nat) (f : FQ → Value), i ≤ n ∧ v = .int .i64 i ∧ Hid (LayQ w wr (rowsN g gh gr gk gw bm bc n (.slice none 0 0) (.bool false) f (SNi i) [blkS br zeroSL]) (mapsN bm bc n f SN0) tyI f (qIn n i))) (fun v _ => n - (intOf v).toNat)
      case atStart => exact ⟨0, _, by omega, rfl, HQ0⟩
      case round =>
        clear HQ0
        obtain ⟨i, f, hi, rfl, H⟩ := hrel
        by_cases hlt : i < n
        · have c1 := H.out.lay.cellB 0 rfl 1 (by omega)
          have c8 := H.out.lay.cellB 0 rfl 8 (by omega)
          simp only [ofL_1, ofL_8] at c1 c8
          have h1 := H.out.lay.cell1 1 rfl hlt
          have f1 := H.out.lay.frz 1 rfl (by omega) i
          have hmk := fun w => run_mkIntN w n hn
          have H1 : Hid (LayQ w (wr.setCell ⟨gh, i, none⟩ (.int .i64 100)) (rowsN g gh gr gk gw bm bc n (.slice none 0 0) (.bool false) f (SNi (i + 1)) [blkS br zeroSL]) (mapsN bm bc n f SN0) tyI f (qIn n i)) :=
            Lib.hid ((H.out.upd 1 (mk := Value.int .i64) 100 rfl hlt).congr 1 (fun j => .int .i64 ((SNi (i + 1)).have_ j)) rfl fun j _ => by
              show Value.int .i64 (upd (SNi i).have_ i 100 j) = .int .i64 (if j < i + 1 then 100 else 0)
              rw [upd_apply]
              show Value.int .i64 (if j = i then 100 else if j < i then 100 else 0) = _
              congr 1
              split
              · rw [if_pos (by omega)]
              · split
                · rw [if_pos (by omega)]
                · rw [if_neg (by omega)])
          go_wp2
          refine at_layQ (F := fun W' => Code.wp _ _ _ _ W') H1.out ?_
          intro W hW
          have HW := Lib.hid hW
          clear hW H1 H c1 c8 h1 f1
          have hS : RowS g gw n W.drew := HW.out.lay.cellB 0 rfl 8 (by omega)
          have HM := Lib.hid (make_q HW.out.drew i n (by unfold maxLen; omega))
          have HI1 := inner_q hlt HM.out rfl
          rw [World.setCell_alloc_past _ _ _ _ (show gw < W.drew.heap.size from (HW.out.lay.at_ 4 rfl).2)] at HI1
          have HI := Lib.hid HI1
          clear HI1
          have h4 := HW.out.lay.cell1 4 rfl hlt
          have f4 := HW.out.lay.frz 4 rfl (by omega) i
          have l4 := (HW.out.lay.at_ 4 rfl).2
          have hS2 : RowS g gw n _ := HM.out.lay.cellB 0 rfl 8 (by omega)
          refine wp_held_mask (RowS g gw n) [true, true, true, true, true, true, true, false, false, false] ?A1 (by kernel_rfl) rfl (by kernel_rfl) (by repeat' (first | (with_reducible apply tame_then) | (with_reducible apply tame_block) | (with_reducible apply tame_scope) | exact tame_gives | exact tame_body (fun _ _ h => ⟨_, h.1⟩))) hS ?head ?tail
          case head =>
            intro W5 s0
            unfold RowS at s0
            simp only [pick]
            go_wp2
            exact taken
          case tail =>
            simp only [pick, List.map_cons, List.map_nil, Bool.not_true, Bool.not_false]
            refine tail_step ?_
            go_wp2
            refine holds hS2 ?_
            refine tail_step ?_
            go_wp2
            refine holds hS2 ?_
            refine tail_last ?_
            clear hS hS2 hmk
            go_wp2
            go_roundw
            case rel => exact ⟨i + 1, _, by omega, by go_num, HI⟩
            case measure => simp [intOf]; omega
        · obtain rfl : i = n := by omega
          have HL0 : Hid (LayN g gh gr gk gw bm bc i (.slice none 0 0) (.bool false) [lstE none 0 0 (snC i M), blkS br zeroSL] w f (snE i M 0) wr) := Lib.hid (by
            have h1 := (H.out.congr 1 (fun j => .int .i64 (SN0.have_ j)) rfl (fun j hj => by
              have hj : j < i * 1 := hj
              show Value.int .i64 (if j < i then 100 else 0) = .int .i64 100
              rw [if_pos (by omega)])).lnil 27 1 (fun k => .int .i64 (snC i M k))
            refine (h1.rot5).sameQ fun a => ?_
            rcases a with a | a <;> rfl)
          clear H
          go_wp2
          go_loopw [67] (fun v wr => ∃ (j : Nat) (f : FQ → Value), j ≤ m ∧ v = .int .i64 j ∧ ∃ AC cC, Hid (LayN g gh gr gk gw bm bc i (.slice AC j cC) (.bool false) [lstE AC j cC (snC i M), blkS br zeroSL] w f (snE i M j) wr)) (fun v _ => m - (intOf v).toNat)
          case atStart => exact ⟨0, f, by omega, rfl, none, 0, HL0⟩
          case round =>
            clear HL0
            obtain ⟨j, f, hj, rfl, AC, cC, HQ⟩ := hrel
            by_cases hlt : j < m
            · obtain ⟨ad, rfl, hbl, m0, m1, m2, m3⟩ := (HR.out.below (HQ.out.lay.bel.mono hB)).rec4 hlt
              clear hbl
              go_wp2
              clear m0 m1 m2 m3
              have HQ1 := Lib.hid ((HQ.out.newB [.int .i64 (M.k j), .int .i64 (M.f j), .int .i64 (M.t j), .int .i64 (M.v j)] 41 4 rfl _ rfl).rot5)
              refine at_layQ (F := fun W' => Code.wp _ _ _ _ W') HQ1.out ?_
              intro W hW
              have HW : Hid (LayN g gh gr gk gw bm bc i (.slice AC j cC) (.bool false) [mvB wr.heap.size (M.k j) (M.f j) (M.t j) (M.v j), lstE AC j cC (snC i M), blkS br zeroSL] w f (snE i M j) W) := Lib.hid hW
              clear hW HQ1 HQ
              generalize wr.heap.size = x at HW ⊢
              have hs : MvSN g x (.slice AC j cC) (M.k j) (M.f j) (M.t j) (M.v j) W := MvSN.of HW.out.lay 0 5 rfl rfl
              refine wp_held_mask (MvSN g x (.slice AC j cC) (M.k j) (M.f j) (M.t j) (M.v j)) [true, true, true, true, true, true, true, true, false, false, false, false, false, false, false] ?A3 (by kernel_rfl) rfl (by kernel_rfl) (by repeat' (first | (with_reducible apply tame_then) | (with_reducible apply tame_block) | (with_reducible apply tame_scope) | exact tame_gives | exact tame_body (fun _ _ h => ⟨_, h.1⟩))) hs ?head3 ?tail3
              case head3 =>
                intro W5 ⟨s0, s1, s2, s3, s4⟩
                simp only [pick]
                go_wp2
                exact taken
              case tail3 =>
                clear hs
                simp only [pick, List.map_cons, List.map_nil, Bool.not_true, Bool.not_false]
                refine tail_step ?_
                go_wp2_with fail
                refine (doN_any g gh gr gk gw bm bc i (.slice AC j cC) (.bool false) [mvB x (M.k j) (M.f j) (M.t j) (M.v j), lstE AC j cC (snC i M), blkS br zeroSL] w f (snE i M j) _ (M.k j) (M.f j) (M.t j) (M.v j) hn (fun p => by have := snE_len i M j p; omega) (snE_B hn M j) (by exact sn_sim HW.out ⟨rfl, rfl, rfl, rfl⟩)).mono ?_
                rintro e w3 ⟨rfl, f3, h3⟩
                have H3 : Hid (LayN g gh gr gk gw bm bc i (.slice AC j cC) (.bool false) [mvB x (M.k j) (M.f j) (M.t j) (M.v j), lstE AC j cC (snC i M), blkS br zeroSL] w f3 (snE i M (j + 1)) w3) := Lib.hid h3
                clear h3 HW
                go_wp2
                refine holds (MvSN.of H3.out.lay 0 5 rfl rfl) ?_
                refine tail_step ?_
                go_wp2
                refine holds (MvSN.of (H3.out.lay.alloc _) 0 5 rfl rfl) ?_
                refine tail_step ?_
                refine wpList_ap1 rfl (.tmp 76) (.tmp 80) _ rfl 27 iE _ 8 Try.underlying23 hiE hzE0 hzE1 hzE2 rfl w.heap.size rfl ((H3.out.lay.alloc _).own 6 _ rfl) rfl (cell_new _ _ _ _ _ rfl (one_cell _)) (fun _ _ => rfl) (fun k => .int .i64 (snC i M k)) (fun _ _ => rfl) (one_at rfl) (j + 1) rfl (by unfold maxLen; omega) (by omega) (by have := H3.out.size; simp; omega) ?_
                intro A2 cap2 w4 ho hg ha
                have H4 : Hid (LayN g gh gr gk gw bm bc i (.slice AC j cC) (.bool false) [mvB x (M.k j) (M.f j) (M.t j) (M.v j), lstE A2 (j + 1) cap2 (snC i M), blkS br zeroSL] w f3 (snE i M (j + 1)) w4) := Lib.hid ((H3.out.alloc _).app 6 rfl ho hg ha)
                clear ho hg ha H3
                refine holds (MvSN.of H4.out.lay 0 5 rfl rfl) ?_
                refine tail_step ?_
                go_wp2
                refine holds (MvSN.of H4.out.lay 0 5 rfl rfl) ?_
                refine tail_step ?_
                go_wp2
                refine holds (MvSN.of H4.out.lay 0 5 rfl rfl) ?_
                refine tail_step ?_
                go_wp2
                refine holds (MvSN.of H4.out.lay 0 5 rfl rfl) ?_
                refine tail_last ?_
                have c5 := H4.out.lay.cellB 0 rfl 5 (by omega)
                have f5 := H4.out.lay.frz 0 rfl (by omega) 5
                simp only [ofL_5] at c5
                have H5 : Hid (LayN g gh gr gk gw bm bc i (.slice A2 (j + 1) cap2) (.bool false) [lstE A2 (j + 1) cap2 (snC i M), blkS br zeroSL] w f3 (snE i M (j + 1)) (w4.setCell ⟨g, 5, none⟩ (.slice A2 (j + 1) cap2))) := Lib.hid ((H4.out.fld 0 5 (.slice A2 (j + 1) cap2) rfl (by omega) (by simp)).drop5)
                go_wp2
                go_roundw
                case rel => exact ⟨j + 1, f3, by omega, by go_num, A2, cap2, H5⟩
                case measure => simp [intOf]; omega
            · obtain rfl : j = m := by omega
              obtain ⟨es, cl, hb, hφ⟩ := HQ.out.mp 1 rfl
              have hsz := cntC_size hφ
              have hmt : Try.prog.underlying 52 = some (.map (Try.prog.mapKeyOf 52) (Try.prog.mapElemOf 52)) := by kernel_rfl
              have hmul : 0 ≤ (i : Int) * ((i : Int) - 1) ∧ (i : Int) * ((i : Int) - 1) ≤ 36 := by
                rcases (show i = 1 ∨ i = 2 ∨ i = 3 ∨ i = 4 ∨ i = 5 ∨ i = 6 by omega) with h | h | h | h | h | h <;> rw [h] <;> decide
              have c4 := (sn_heads HQ.out).2.2.2.2.1
              have c6 : wr.cell? ⟨g, 6, none⟩ = some (.bool false) := HQ.out.lay.cellB 0 rfl 6 (by omega)
              have f6 := HQ.out.lay.frz 0 rfl (by omega) 6
              have c3 := (sn_heads HQ.out).2.2.2.1
              obtain ⟨d0, hd0⟩ : ∃ d0, ((es.size : Int) == (i : Int) * ((i : Int) - 1)) = d0 := ⟨_, rfl⟩
              have HD0 : Hid (d0 = decide ((cntC i (snE i M j).closed : Int) = i * (i - 1))) := Lib.hid (by rw [← hd0, hsz, Bool.eq_iff_iff, beq_iff_eq, decide_eq_true_iff])
              have H6 : Hid (LayN g gh gr gk gw bm bc i (.slice AC j cC) (.bool (d0 && (List.range 0).all (snE i M j).rec_)) [lstE AC j cC (snC i M), blkS br zeroSL] w f (snE i M j) (wr.setCell ⟨g, 6, none⟩ (.bool d0))) := Lib.hid (by
                have := HQ.out.fld 0 6 (.bool d0) rfl (by omega) (by simp)
                simpa using this)
              clear hφ hsz
              go_wp2_with (first
                | (at_len; refine wpList_lenE rfl (.tmp 90) _ rfl hmt rfl hb ?_)
                | fail)
              clear hb c3 c4 c6 f6 HQ hd0 hmul
              go_loopw [105] (fun v wr => ∃ q : Nat, q ≤ i ∧ v = .int .i64 q ∧ Hid (LayN g gh gr gk gw bm bc i (.slice AC j cC) (.bool (d0 && (List.range q).all (snE i M j).rec_)) [lstE AC j cC (snC i M), blkS br zeroSL] w f (snE i M j) wr)) (fun v _ => i - (intOf v).toNat)
              case atStart => exact ⟨0, by omega, rfl, H6⟩
              case round =>
                clear H6
                obtain ⟨q, hq, rfl, HQ⟩ := hrel
                obtain ⟨d, hd⟩ : ∃ d, (d0 && (List.range q).all (snE i M j).rec_) = d := ⟨_, rfl⟩
                rw [hd] at HQ
                have HD := Lib.hid hd
                clear hd
                by_cases hlt : q < i
                · have c6 : wr.cell? ⟨g, 6, none⟩ = some (.bool d) := HQ.out.lay.cellB 0 rfl 6 (by omega)
                  have f6 := HQ.out.lay.frz 0 rfl (by omega) 6
                  have r0 : wr.cell? ⟨gr, q, none⟩ = some (.bool ((snE i M j).rec_ q)) := HQ.out.lay.cell1 2 rfl hlt
                  obtain ⟨b, hb⟩ : ∃ b, (snE i M j).rec_ q = b := ⟨_, rfl⟩
                  rw [hb] at r0
                  have HN : Hid ((d0 && (List.range (q + 1)).all (snE i M j).rec_) = (d && b)) := Lib.hid (by rw [List.range_succ, List.all_append, ← Bool.and_assoc, HD.out, List.all_cons, List.all_nil, hb, Bool.and_true])
                  have H7 : Hid (LayN g gh gr gk gw bm bc i (.slice AC j cC) (.bool (d && b)) [lstE AC j cC (snC i M), blkS br zeroSL] w f (snE i M j) (wr.setCell ⟨g, 6, none⟩ (.bool (d && b)))) := Lib.hid (HQ.out.fld 0 6 (.bool (d && b)) rfl (by omega) (by simp))
                  clear hb
                  cases d
                  all_goals
                    go_wp2
                    go_roundw
                    case rel => exact ⟨q + 1, by omega, by go_num, by rw [HN.out]; exact H7⟩
                    case measure => simp [intOf]; omega
                · obtain rfl : q = i := by omega
                  have HDN : Hid (d = snDone q (snE q M j)) := Lib.hid (by rw [← HD.out, HD0.out]; rfl)
                  have c5 : wr.cell? ⟨g, 5, none⟩ = some (.slice AC j cC) := HQ.out.lay.cellB 0 rfl 5 (by omega)
                  have c6 : wr.cell? ⟨g, 6, none⟩ = some (.bool d) := HQ.out.lay.cellB 0 rfl 6 (by omega)
                  have c7 := (sn_heads HQ.out).2.2.2.2.2.1
                  have c8 := (sn_heads HQ.out).2.2.2.2.2.2
                  have r0 : wr.cell? ⟨br, 0, none⟩ = some (.slice none 0 0) := HQ.out.lay.cellB 6 rfl 0 (by omega)
                  have r1 : wr.cell? ⟨br, 1, none⟩ = some (.bool false) := HQ.out.lay.cellB 6 rfl 1 (by omega)
                  have r2 : wr.cell? ⟨br, 2, none⟩ = some (.slice none 0 0) := HQ.out.lay.cellB 6 rfl 2 (by omega)
                  have r3 : wr.cell? ⟨br, 3, none⟩ = some (.slice none 0 0) := HQ.out.lay.cellB 6 rfl 3 (by omega)
                  have f0 := HQ.out.lay.frz 6 rfl (by omega) 0
                  have f1 := HQ.out.lay.frz 6 rfl (by omega) 1
                  have f2 := HQ.out.lay.frz 6 rfl (by omega) 2
                  have f3 := HQ.out.lay.frz 6 rfl (by omega) 3
                  have HF : Hid (LayN g gh gr gk gw bm bc q (.slice AC j cC) (.bool d) [lstE AC j cC (snC q M), blkS br [.slice AC j cC, .bool d, .slice (some ⟨gk, 0, none⟩) q q, .slice (some ⟨gw, 0, none⟩) q q]] w f (snE q M j) ((((wr.setCell ⟨br, 0, none⟩ (.slice AC j cC)).setCell ⟨br, 1, none⟩ (.bool d)).setCell ⟨br, 2, none⟩ (.slice (some ⟨gk, 0, none⟩) q q)).setCell ⟨br, 3, none⟩ (.slice (some ⟨gw, 0, none⟩) q q))) :=
                    Lib.hid ((((HQ.out.fld 6 0 (.slice AC j cC) rfl (by omega) (by simp)).fld 6 1 (.bool d) rfl (by omega) (by simp)).fld 6 2 (.slice (some ⟨gk, 0, none⟩) q q) rfl (by omega) (by simp)).fld 6 3 (.slice (some ⟨gw, 0, none⟩) q q) rfl (by omega) (by simp))
                  go_wp2
                  have HF2 := HF.out
                  clear c5 c6 c7 c8 r0 r1 r2 r3 f0 f1 f2 f3 HQ HF
                  generalize (((wr.setCell ⟨br, 0, none⟩ (.slice AC j cC)).setCell ⟨br, 1, none⟩ (.bool d)).setCell ⟨br, 2, none⟩ (.slice (some ⟨gk, 0, none⟩) q q)).setCell ⟨br, 3, none⟩ (.slice (some ⟨gw, 0, none⟩) q q) = W8 at HF2 ⊢
                  have r0 : W8.cell? ⟨br, 0, none⟩ = some (.slice AC j cC) := HF2.lay.cellB 6 rfl 0 (by omega)
                  have r1 : W8.cell? ⟨br, 1, none⟩ = some (.bool d) := HF2.lay.cellB 6 rfl 1 (by omega)
                  have r2 : W8.cell? ⟨br, 2, none⟩ = some (.slice (some ⟨gk, 0, none⟩) q q) := HF2.lay.cellB 6 rfl 2 (by omega)
                  have r3 : W8.cell? ⟨br, 3, none⟩ = some (.slice (some ⟨gw, 0, none⟩) q q) := HF2.lay.cellB 6 rfl 3 (by omega)
                  exact bodyPost_ret (v := .tuple #[.agg #[.slice AC j cC, .bool d, .slice (some ⟨gk, 0, none⟩) q q, .slice (some ⟨gw, 0, none⟩) q q], .int .i64 0]) (by simp [results, Try.results11, go_sem, r0, r1, r2, r3]) rfl ⟨_, rfl, g, gh, gr, gk, gw, bm, bc, br, f, AC, cC, by rw [← HDN.out], by rw [← HDN.out]; exact HF2⟩
end
end Go.Proofs.Ytfcgjmekeonemaa
