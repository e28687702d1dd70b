/- The walk of copies.Play. -/
import Derived.Test.YtoakgoigamigjaaCoDo
import Derived.Test.YtoakgoigamigjaaLaL
import Derived.Deep.CutRange
import Derived.Deep.CutBlock
set_option linter.unusedVariables false
set_option linter.unusedSimpArgs false
namespace Go.Proofs.Ytoakgoigamigjaa
open Go.RowKit

theorem infoErrnoK : (Try.prog.info? 28).map (fun i => (i.zero, i.size, i.bytes)) = some (some (.int .i64 0), 1, 8) := by kernel_rfl
theorem infoIntK : (Try.prog.info? 3).map (fun i => (i.zero, i.size, i.bytes)) = some (some (.int .i64 0), 1, 8) := by kernel_rfl
theorem infoKept : (Try.prog.info? 46).map (fun i => (i.zero, i.size, i.bytes)) = some (some (.agg #[.int .i64 0, .int .i64 0]), 2, 16) := by kernel_rfl
abbrev blkC (b : Nat) (l : List Value) : LRow := blk b 27 4 (ofL l)
abbrev nils : List Value := [.slice none 0 0, .slice none 0 0, .slice none 0 0, .slice none 0 0]
abbrev lstC (A : Option Addr) (m cap : Nat) (fc : Nat → Int) : LRow := lst A 28 m cap (fun i => .int .i64 (fc i))
abbrev lstI (A : Option Addr) (m cap : Nat) (F : Nat → Value) : LRow := lst A 3 m cap F
abbrev mvR (q : Nat) (k f t v : Int) : LRow := blk q 34 4 (ofL [.int .i64 k, .int .i64 f, .int .i64 t, .int .i64 v])
/-- What the loads of 'out.Codes = append(out.Codes, a.do(m, now))' read. -/
def MvS (b q : Nat) (C : Value) (k f t v : Int) (w : World) : Prop :=
  w.cell? ⟨b, 0, none⟩ = some C ∧ w.cell? ⟨q, 0, none⟩ = some (.int .i64 k) ∧ w.cell? ⟨q, 1, none⟩ = some (.int .i64 f) ∧ w.cell? ⟨q, 2, none⟩ = some (.int .i64 t) ∧ w.cell? ⟨q, 3, none⟩ = some (.int .i64 v)
theorem MvS.of {w0 w : World} {L : List LRow} {b q : Nat} {ty : TypeId} {sz : Nat} {l : List Value} {C : Value} {k f t v : Int} (h : Lay w0 w L) (i j : Nat) (hi : L[i]? = some (blk b ty sz (ofL (C :: l)))) (hs : 0 < sz) (hj : L[j]? = some (mvR q k f t v)) : MvS b q C k f t v w :=
  ⟨h.cellB i hi 0 hs, h.cellB j hj 0 (by omega), h.cellB j hj 1 (by omega), h.cellB j hj 2 (by omega), h.cellB j hj 3 (by omega)⟩
/-- What the loads of 'out.Stamp, out.Val = append(out.Stamp, k.stamp), ..' read. -/
def TwoC (b q : Nat) (C1 C2 x0 x1 : Value) (w : World) : Prop :=
  w.cell? ⟨b, 2, none⟩ = some C1 ∧ w.cell? ⟨b, 3, none⟩ = some C2 ∧ w.cell? ⟨q, 0, none⟩ = some x0 ∧ w.cell? ⟨q, 1, none⟩ = some x1
abbrev litK (gl n : Nat) : List Value := [.slice (some ⟨gl, 0, none⟩) n n, .int .u32 0, .int .i64 0, .int .i64 0, .bool false, .int .i64 0, .int .u32 0, .int .i64 0, .int .i64 0, .int .i64 0, .int .i64 0, .int .i64 0, .bool false, .int .i64 0, .int .u32 0, .int .i64 0, .int .i64 0, .int .i64 0, .int .i64 0, .int .i64 0, .bool false, .int .i64 0, .int .u32 0, .int .i64 0, .int .i64 0, .int .i64 0, .int .i64 0, .int .i64 0, .bool false, .int .i64 0, .int .u32 0, .int .i64 0, .int .i64 0, .int .i64 0, .int .i64 0, .int .i64 0, .bool false, .int .i64 0, .int .u32 0, .int .i64 0, .int .i64 0, .int .i64 0, .int .i64 0, .int .i64 0, .bool false, .int .i64 0, .int .u32 0, .int .i64 0, .int .i64 0, .int .i64 0, .slice none 0 0]
theorem all_lit (gl n j : Nat) (hj : j < 51) : ofL (litK gl n) j = allF gl n CS0 none 0 0 j := by
  have h : litK gl n = (List.range 51).map (allF gl n CS0 none 0 0) := rfl
  rw [h, ofL, List.getElem?_map, List.getElem?_range hj]; rfl
theorem kept_zero (j : Nat) : kpF CS0 j = (Value.agg #[.int .i64 0, .int .i64 0]).cells[j % 2]! := by
  rcases (by omega : j % 2 = 0 ∨ j % 2 = 1) with h | h <;> simp only [kpF, h] <;> rfl
set_option maxRecDepth 100000 in
set_option maxHeartbeats 6400000 in
theorem co_good (n m cap B : Nat) (A : Option Addr) (M : Mv) (w : World) (hn1 : 1 ≤ n) (hn : n ≤ 6) (hm : m ≤ 60) (hB : B ≤ w.heap.size) (hr : Rd w B A (m * 4) (mvF M)) :
    Calls Try.prog 7 #[.int .i64 n, .slice A m cap] w (Gives fun v w' => ∃ g gl b AO cO AC cC AS cS AV cV, v = .tuple #[.agg #[.slice AC m cC, .slice AO (coE n M m).ops.length cO, .slice AS n cS, .slice AV n cV], .int .i64 0] ∧
      Lay w w' (rowsK g gl n (coE n M m) AO cO [lstC AC m cC (coC n M), lstI AS n cS (fun i => .int .i64 ((coE n M m).S i : Nat)), lstI AV n cV (fun i => .int .i64 ((coE n M m).V i)), blkC b [.slice AC m cC, .slice AO (coE n M m).ops.length cO, .slice AS n cS, .slice AV n cV]])) := by
  have HR := Lib.hid hr; clear hr
  obtain ⟨iE, hiE, hzE0, hzE1, hzE2⟩ := info_parts infoErrnoK
  obtain ⟨iI, hiI, hzI0, hzI1, hzI2⟩ := info_parts infoIntK
  obtain ⟨iK, hiK, hzK0, hzK1, hzK2⟩ := info_parts infoKept
  go_enter Try.func7, Try.ntmps7
  go_wp2_with (at_make; refine wpList_mkN rfl (.tmp 24) (.tmp 24) _ rfl 46 iK _ 2 16 Try.underlying44 hiK hzK0 hzK1 hzK2 .i64 .i64 n rfl rfl (by omega) (by unfold maxLen; omega) ?_; intro w2 he2
               have HL2 : Hid (Lay w w2 [kpR (w.heap.size + 1) n CS0, blkC w.heap.size nils]) := by
                 rw [he2]
                 exact (((Lay.nil w).newB nils _ 4 rfl _ rfl).makeN _ n 2 (by unfold maxLen; omega) _ (kpF CS0) rfl (fun j _ => kept_zero j) _ (size_push _ _).symm)
               clear he2)
  have HL3 : Hid (Lay w ((w2.alloc (.cells (litK (w.heap.size + 1) n).toArray 51)).alloc (.cells #[.slice none 0 0, .slice none 0 0, .slice none 0 0, .slice none 0 0] 27)) (rowsK w2.heap.size (w.heap.size + 1) n (coE n M 0) none 0 [lstC none 0 0 (coC n M), blkC (w2.heap.size + 1) nils, blkC w.heap.size nils])) := by
    have h1 := ((HL2.out.newB (litK (w.heap.size + 1) n) 51 51 rfl _ rfl).congr 0 (allF (w.heap.size + 1) n CS0 none 0 0) rfl (fun j hj => all_lit _ _ j (by simpa using hj))).newB nils 27 4 rfl (w2.heap.size + 1) (size_push _ _).symm
    exact ((h1.lnil 28 1 (fun i => .int .i64 (coC n M i))).lnil 36 5 (opG [])).perm [3, 4, 0, 1, 2, 5] (by decide) rfl
  clear HL2
  generalize hgl : w.heap.size + 1 = gl at HL3 ⊢
  generalize w2.heap.size + 1 = bo at HL3 ⊢
  generalize w2.heap.size = g at HL3 ⊢
  clear hgl
  go_loopw [30] (fun i wr => ∃ j : Nat, j ≤ m ∧ i = .int .i64 j ∧ ∃ AO cO AC cC, Hid (Lay w wr (rowsK g gl n (coE n M j) AO cO [lstC AC j cC (coC n M), blkC bo [.slice AC j cC, .slice none 0 0, .slice none 0 0, .slice none 0 0], blkC w.heap.size nils]))) (fun i _ => m - (intOf i).toNat)
  case atStart => exact ⟨0, by omega, rfl, none, 0, none, 0, HL3.out⟩
  case round =>
    clear HL3
    obtain ⟨j, hj, rfl, AO, cO, AC, cC, HQ⟩ := hrel
    by_cases hlt : j < m
    · obtain ⟨ad, rfl, hbl, m0, m1, m2, m3⟩ := (HR.out.below (HQ.out.bel.mono hB)).rec4 hlt
      clear hbl
      go_wp2
      clear m0 m1 m2 m3
      have HQ1 : Hid (Lay w (wr.alloc (.cells #[.int .i64 (M.k j), .int .i64 (M.f j), .int .i64 (M.t j), .int .i64 (M.v j)] 34)) (rowsK g gl n (coE n M j) AO cO [lstC AC j cC (coC n M), blkC bo [.slice AC j cC, .slice none 0 0, .slice none 0 0, .slice none 0 0], mvR wr.heap.size (M.k j) (M.f j) (M.t j) (M.v j), blkC w.heap.size nils])) :=
        (HQ.out.newB [.int .i64 (M.k j), .int .i64 (M.f j), .int .i64 (M.t j), .int .i64 (M.v j)] 34 4 rfl _ rfl).perm [1, 2, 3, 4, 5, 0, 6] (by decide) rfl
      refine at_lay (F := fun W' => Code.wp _ _ _ _ W') HQ1.out ?_
      intro W hW
      have HW := Lib.hid hW
      clear hW HQ1 HQ
      generalize wr.heap.size = q at HW ⊢
      have hs : MvS bo q (.slice AC j cC) (M.k j) (M.f j) (M.t j) (M.v j) W := MvS.of HW.out 4 5 rfl (by omega) rfl
      have hWB := WB.all n M j
      refine wp_held_mask (MvS bo q (.slice AC j cC) (M.k j) (M.f j) (M.t j) (M.v j)) [true, true, true, true, true, false, false, false, false, false] ?A1 (by kernel_rfl) rfl (by kernel_rfl) (by repeat' (first | (with_reducible apply tame_then) | (with_reducible apply tame_block) | (with_reducible apply tame_scope) | exact tame_gives | exact tame_body (fun _ _ h => ⟨_, h.1⟩))) hs ?head ?tail
      case head =>
        intro W5 ⟨s0, s1, s2, s3, s4⟩
        simp only [pick]
        go_wp2
        exact taken
      case tail =>
        clear hs
        simp only [pick, List.map_cons, List.map_nil, Bool.not_true, Bool.not_false]
        refine tail_step ?_
        go_wp2_with fail
        refine (do_any g gl n (coE n M j) AO cO _ w _ (M.k j) (M.f j) (M.t j) (M.v j) j j hn (by omega) (by omega) hWB (by exact HW.out.sim ⟨rfl, rfl, rfl, rfl⟩)).mono ?_
        rintro e w3 ⟨rfl, AO3, cO3, h3⟩
        have H3 : Hid (Lay w w3 (rowsK g gl n (coE n M (j + 1)) AO3 cO3 [lstC AC j cC (coC n M), blkC bo [.slice AC j cC, .slice none 0 0, .slice none 0 0, .slice none 0 0], mvR q (M.k j) (M.f j) (M.t j) (M.v j), blkC w.heap.size nils])) := h3
        clear h3 HW hWB
        go_wp2
        refine holds (MvS.of H3.out 4 5 rfl (by omega) rfl) ?_
        refine tail_step ?_
        go_wp2
        refine holds (MvS.of (H3.out.alloc _) 4 5 rfl (by omega) rfl) ?_
        refine tail_step ?_
        refine wpList_ap1 rfl (.tmp 36) (.tmp 41) _ rfl 28 iE _ 8 Try.underlying23 hiE hzE0 hzE1 hzE2 rfl w.heap.size rfl ((H3.out.alloc _).own 3 _ rfl) rfl (cell_new _ _ _ _ _ rfl (one_cell _)) (fun _ _ => rfl) (fun i => .int .i64 (coC n M i)) (fun _ _ => rfl) (one_at rfl) (j + 1) rfl (by unfold maxLen; omega) (by omega) (by have := H3.out.size; simp; omega) ?_
        intro A2 cap2 w4 ho hg ha
        have H4 : Hid (Lay w w4 (rowsK g gl n (coE n M (j + 1)) AO3 cO3 [lstC A2 (j + 1) cap2 (coC n M), blkC bo [.slice AC j cC, .slice none 0 0, .slice none 0 0, .slice none 0 0], mvR q (M.k j) (M.f j) (M.t j) (M.v j), blkC w.heap.size nils])) := (H3.out.alloc _).app 3 rfl ho hg ha
        clear ho hg ha H3
        have HS4 := Lib.hid (MvS.of H4.out 4 5 rfl (by omega) rfl : MvS bo q (.slice AC j cC) (M.k j) (M.f j) (M.t j) (M.v j) w4)
        have d0 := HS4.out.1
        have e0 := H4.out.frz 4 rfl (by omega) 0
        go_wp2
        refine holds HS4.out ?_
        refine tail_step ?_
        go_wp2
        refine holds HS4.out ?_
        refine tail_last ?_
        go_wp2
        go_roundw
        case rel => exact ⟨j + 1, by omega, by go_num, AO3, cO3, A2, cap2, (H4.out.fld 4 0 (.slice A2 (j + 1) cap2) rfl (by omega) (by simp)).perm [0, 1, 2, 3, 4, 6] (by decide) rfl⟩
        case measure => simp [intOf]; omega
    · obtain rfl : j = m := by omega
      obtain ⟨c0, _, c50⟩ := co_hd HQ.out
      have e0 := HQ.out.cellB 4 rfl 1 (by omega)
      have f1 := HQ.out.frz 4 rfl (by omega) 1
      have hne := HQ.out.ne_ 0 4 rfl rfl (by omega)
      simp only [ofL_1] at e0
      have HQ0 : Hid (Lay w (wr.setCell ⟨bo, 1, none⟩ (.slice AO (coE n M j).ops.length cO)) (rowsK g gl n (coE n M j) AO cO [lstC AC j cC (coC n M), blkC bo [.slice AC j cC, .slice AO (coE n M j).ops.length cO, .slice none 0 0, .slice none 0 0], lstI none 0 0 (fun i => .int .i64 ((coE n M j).S i : Nat)), lstI none 0 0 (fun i => .int .i64 ((coE n M j).V i)), blkC w.heap.size nils])) :=
        (((HQ.out.fld 4 1 (.slice AO (coE n M j).ops.length cO) rfl (by omega) (by simp)).lnil 3 1 (fun i => .int .i64 ((coE n M j).V i))).lnil 3 1 (fun i => .int .i64 ((coE n M j).S i : Nat))).perm [2, 3, 4, 5, 6, 0, 1, 7] (by decide) rfl
      clear HQ
      go_wp2
      clear c0 c50 e0 f1 hne
      go_loopw [55] (fun i wr => ∃ q : Nat, q ≤ n ∧ i = .int .i64 q ∧ ∃ AS cS AV cV, Hid (Lay w wr (rowsK g gl n (coE n M j) AO cO [lstC AC j cC (coC n M), blkC bo [.slice AC j cC, .slice AO (coE n M j).ops.length cO, .slice AS q cS, .slice AV q cV], lstI AS q cS (fun i => .int .i64 ((coE n M j).S i : Nat)), lstI AV q cV (fun i => .int .i64 ((coE n M j).V i)), blkC w.heap.size nils]))) (fun i _ => n - (intOf i).toNat)
      case atStart => exact ⟨0, by omega, rfl, none, 0, none, 0, HQ0.out⟩
      case round =>
        clear HQ0
        obtain ⟨q, hq, rfl, AS, cS, AV, cV, HQ⟩ := hrel
        by_cases hqn : q < n
        · obtain ⟨r0, r1⟩ := co_kp HQ.out (t := q) hqn
          go_wp2
          clear r0 r1
          have HQ1 : Hid (Lay w (wr.alloc (.cells #[.int .i64 ((coE n M j).S q : Nat), .int .i64 ((coE n M j).V q)] 46)) (rowsK g gl n (coE n M j) AO cO [lstC AC j cC (coC n M), blkC bo [.slice AC j cC, .slice AO (coE n M j).ops.length cO, .slice AS q cS, .slice AV q cV], lstI AS q cS (fun i => .int .i64 ((coE n M j).S i : Nat)), lstI AV q cV (fun i => .int .i64 ((coE n M j).V i)), blk wr.heap.size 46 2 (ofL [.int .i64 ((coE n M j).S q : Nat), .int .i64 ((coE n M j).V q)]), blkC w.heap.size nils])) :=
            (HQ.out.newB [.int .i64 ((coE n M j).S q : Nat), .int .i64 ((coE n M j).V q)] 46 2 rfl _ rfl).perm [1, 2, 3, 4, 5, 6, 7, 0, 8] (by decide) rfl
          refine at_lay (F := fun W' => Code.wp _ _ _ _ W') HQ1.out ?_
          intro W hW
          have HW := Lib.hid hW
          clear hW HQ1 HQ
          generalize wr.heap.size = qb at HW ⊢
          refine wp_lay HW.out [0, 1, 2, 3, 4, 5, 6, 7, 8, 9, 10, 11, 12] [59, 60, 61, 62, 63, 64, 65, 66, 67, 68, 69, 70, 71] [13, 14, 15] 13 [lane 5 1 4 25 3 8 (AS) (q) (cS) (fun i => .int .i64 ((coE n M j).S i : Nat)), lane 11 7 10 25 3 8 (AV) (q) (cV) (fun i => .int .i64 ((coE n M j).V i))] (fun j => if j = 5 then 5 else 6)
            [.v (.pointer (some ⟨bo, 2, none⟩)), .v (.slice AS q cS), .v (.pointer (some ⟨qb, 0, none⟩)), .v (.int .i64 ((coE n M j).S q : Nat)), .box 3 (.int .i64 ((coE n M j).S q : Nat)), .v undef, .v (.pointer (some ⟨bo, 3, none⟩)), .v (.slice AV q cV), .v (.pointer (some ⟨qb, 1, none⟩)), .v (.int .i64 ((coE n M j).V q)), .box 3 (.int .i64 ((coE n M j).V q)), .v undef, .v (.pointer (some ⟨bo, 2, none⟩))]
            (TwoC bo qb (.slice AS q cS) (.slice AV q cV) (.int .i64 ((coE n M j).S q : Nat)) (.int .i64 ((coE n M j).V q))) (by kernel_rfl) (by kernel_rfl) rfl (by decide) rfl (by kernel_rfl) ⟨?rowat, ?injk⟩ ?inj ?val ?ok ?hS ?ext ?fin
          case rowat => intro r hr; simp only [List.mem_cons, List.not_mem_nil, or_false] at hr; rcases hr with rfl | rfl <;> rfl
          case injk => intro r hr q hq h; simp only [List.mem_cons, List.not_mem_nil, or_false] at hr hq; rcases hr with rfl | rfl <;> rcases hq with rfl | rfl <;> first | rfl | (exact absurd h (by simp))
          case inj => intro r hr; simp only [List.mem_cons, List.not_mem_nil, or_false] at hr; rcases hr with rfl | rfl <;> rfl
          case val => intro r hr; simp only [List.mem_cons, List.not_mem_nil, or_false] at hr; rcases hr with rfl | rfl <;> rfl
          case ok =>
            intro r hr
            simp only [List.mem_cons, List.not_mem_nil, or_false] at hr
            rcases hr with rfl | rfl
            · exact ⟨(show (5 : Nat) ∈ ([0, 1, 2, 3, 4, 5, 6, 7, 8, 9, 10, 11, 12] : List Nat) by decide), rfl, by intro o ho; cases ho; rfl, rfl, rfl, Try.underlying25, ⟨iI, _, hiI, hzI0, hzI1, hzI2, rfl⟩, by show q + 1 ≤ maxLen; unfold maxLen; omega, by show (q + 1) * 8 ≤ _; omega, fun v w h => h, fun v w h => h⟩
            · exact ⟨(show (11 : Nat) ∈ ([0, 1, 2, 3, 4, 5, 6, 7, 8, 9, 10, 11, 12] : List Nat) by decide), rfl, by intro o ho; cases ho; rfl, rfl, rfl, Try.underlying25, ⟨iI, _, hiI, hzI0, hzI1, hzI2, rfl⟩, by show q + 1 ≤ maxLen; unfold maxLen; omega, by show (q + 1) * 8 ≤ _; omega, fun v w h => h, fun v w h => h⟩
          case hS =>
            intro hk w1 hkp
            have hb := fun o (ho : o < 4) => lay_cell HW.out hk hkp 4 rfl (fun r hr => by simp only [List.mem_cons, List.not_mem_nil, or_false] at hr; rcases hr with rfl | rfl <;> simp) o ho
            have hq2 := fun o (ho : o < 2) => lay_cell HW.out hk hkp 7 rfl (fun r hr => by simp only [List.mem_cons, List.not_mem_nil, or_false] at hr; rcases hr with rfl | rfl <;> simp) o ho
            exact ⟨hb 2 (by omega), hb 3 (by omega), hq2 0 (by omega), hq2 1 (by omega)⟩
          case ext =>
            intro i hi hn o ho a w1 hs hs1 hold hf
            obtain ⟨s1, s2, q0, q1⟩ := hs1
            simp only [List.mem_cons, List.not_mem_nil, or_false] at hi
            rcases hi with rfl | rfl | rfl | rfl | rfl | rfl | rfl | rfl | rfl | rfl | rfl | rfl | rfl
            all_goals cases ho
            · have h1 : a.tmps[7]?.getD undef = .pointer (some ⟨bo, 0, none⟩) := hold 7 (by decide)
              exact does_v (.pointer (some ⟨bo, 2, none⟩)) rfl (by go_simp)
            · have h1 : a.tmps[59]?.getD undef = .pointer (some ⟨bo, 2, none⟩) := hf 0 59 rfl rfl rfl
              exact does_v (.slice AS q cS) rfl (by go_simp)
            · have h1 : a.tmps[11]?.getD undef = .pointer (some ⟨qb, 0, none⟩) := hold 11 (by decide)
              exact does_v (.pointer (some ⟨qb, 0, none⟩)) rfl (by go_simp)
            · have h1 : a.tmps[61]?.getD undef = .pointer (some ⟨qb, 0, none⟩) := hf 2 61 rfl rfl rfl
              exact does_v (.int .i64 ((coE n M j).S q : Nat)) rfl (by go_simp)
            · have h1 : a.tmps[62]?.getD undef = .int .i64 ((coE n M j).S q : Nat) := hf 3 62 rfl rfl rfl
              exact does_box 3 (.int .i64 ((coE n M j).S q : Nat)) rfl rfl hs (by go_simp)
            · cases hn
            · have h1 : a.tmps[7]?.getD undef = .pointer (some ⟨bo, 0, none⟩) := hold 7 (by decide)
              exact does_v (.pointer (some ⟨bo, 3, none⟩)) rfl (by go_simp)
            · have h1 : a.tmps[65]?.getD undef = .pointer (some ⟨bo, 3, none⟩) := hf 6 65 rfl rfl rfl
              exact does_v (.slice AV q cV) rfl (by go_simp)
            · have h1 : a.tmps[11]?.getD undef = .pointer (some ⟨qb, 0, none⟩) := hold 11 (by decide)
              exact does_v (.pointer (some ⟨qb, 1, none⟩)) rfl (by go_simp)
            · have h1 : a.tmps[67]?.getD undef = .pointer (some ⟨qb, 1, none⟩) := hf 8 67 rfl rfl rfl
              exact does_v (.int .i64 ((coE n M j).V q)) rfl (by go_simp)
            · have h1 : a.tmps[68]?.getD undef = .int .i64 ((coE n M j).V q) := hf 9 68 rfl rfl rfl
              exact does_box 3 (.int .i64 ((coE n M j).V q)) rfl rfl hs (by go_simp)
            · cases hn
            · have h1 : a.tmps[7]?.getD undef = .pointer (some ⟨bo, 0, none⟩) := hold 7 (by decide)
              exact does_v (.pointer (some ⟨bo, 2, none⟩)) rfl (by go_simp)
          case fin =>
            intro y ρ w5 hy hs5 hρ hL
            have y0 : y 0 = .pointer (some ⟨bo, 2, none⟩) := hy 0 (by decide) rfl
            have y1 : y 1 = .slice AS q cS := hy 1 (by decide) rfl
            have y2 : y 2 = .pointer (some ⟨qb, 0, none⟩) := hy 2 (by decide) rfl
            have y3 : y 3 = .int .i64 ((coE n M j).S q : Nat) := hy 3 (by decide) rfl
            have y6 : y 6 = .pointer (some ⟨bo, 3, none⟩) := hy 6 (by decide) rfl
            have y7 : y 7 = .slice AV q cV := hy 7 (by decide) rfl
            have y8 : y 8 = .pointer (some ⟨qb, 1, none⟩) := hy 8 (by decide) rfl
            have y9 : y 9 = .int .i64 ((coE n M j).V q) := hy 9 (by decide) rfl
            have y12 : y 12 = .pointer (some ⟨bo, 2, none⟩) := hy 12 (by decide) rfl
            obtain ⟨B0, b0, y5, r0⟩ := hρ _ (List.mem_cons_self ..)
            obtain ⟨B1, b1, y11, r1⟩ := hρ _ (List.mem_cons_of_mem _ (List.mem_cons_self ..))
            simp only [List.drop_succ_cons, List.drop_zero, List.zip_cons_cons, List.zip_nil_right, List.foldl_cons, List.foldl_nil, y0, y1, y2, y3, y6, y7, y8, y9, y12, y5, y11]
            simp only [Act.put, List.setIfInBounds_toArray, List.set_cons_zero, List.set_cons_succ]
            have r0 : ρ 5 = _ := r0
            have r1 : ρ 11 = _ := r1
            clear hy hρ y0 y1 y2 y3 y6 y7 y8 y9 y12 y5 y11
            have hL2 : Lay w w5 (rowsK g gl n (coE n M j) AO cO [lstC AC j cC (coC n M), blkC bo [.slice AC j cC, .slice AO (coE n M j).ops.length cO, .slice AS q cS, .slice AV q cV], lstI B0 (q + 1) b0 (fun i => .int .i64 ((coE n M j).S i : Nat)), lstI B1 (q + 1) b1 (fun i => .int .i64 ((coE n M j).V i)), blk qb 46 2 (ofL [.int .i64 ((coE n M j).S q : Nat), .int .i64 ((coE n M j).V q)]), blkC w.heap.size nils]) := by
              unfold setRows at hL
              simp only [List.foldl_cons, List.foldl_nil, r0, r1] at hL
              exact hL
            have HL2 := Lib.hid hL2
            clear hL hL2 r0 r1 hs5
            have c1 := HL2.out.cellB 4 rfl 2 (by omega)
            have c2 := HL2.out.cellB 4 rfl 3 (by omega)
            simp only [ofL_2, ofL_3] at c1 c2
            have f1 := HL2.out.frz 4 rfl (by omega) 2
            have f2 := HL2.out.frz 4 rfl (by omega) 3
            go_wp2
            go_roundw
            case rel => exact ⟨q + 1, by omega, by go_num, B0, b0, B1, b1, ((HL2.out.fld 4 2 (.slice B0 (q + 1) b0) rfl (by omega) (by simp)).fld 4 3 (.slice B1 (q + 1) b1) rfl (by omega) (by simp)).perm [0, 1, 2, 3, 4, 5, 6, 8] (by decide) rfl⟩
            case measure => simp [intOf]; omega
        · obtain rfl : q = n := by omega
          have e0 := HQ.out.cellB 4 rfl 0 (by omega)
          have e1 := HQ.out.cellB 4 rfl 1 (by omega)
          have e2 := HQ.out.cellB 4 rfl 2 (by omega)
          have e3 := HQ.out.cellB 4 rfl 3 (by omega)
          have r0 := HQ.out.cellB 7 rfl 0 (by omega)
          have r1 := HQ.out.cellB 7 rfl 1 (by omega)
          have r2 := HQ.out.cellB 7 rfl 2 (by omega)
          have r3 := HQ.out.cellB 7 rfl 3 (by omega)
          have g0 := HQ.out.frz 7 rfl (by omega) 0
          have g1 := HQ.out.frz 7 rfl (by omega) 1
          have g2 := HQ.out.frz 7 rfl (by omega) 2
          have g3 := HQ.out.frz 7 rfl (by omega) 3
          have hne := HQ.out.ne_ 4 7 rfl rfl (by omega)
          simp only [ofL_0, ofL_1, ofL_2, ofL_3] at e0 e1 e2 e3 r0 r1 r2 r3
          go_wp2
          have hF := (((HQ.out.fld 7 0 (.slice AC j cC) rfl (by omega) (by simp)).fld 7 1 (.slice AO (coE q M j).ops.length cO) rfl (by omega) (by simp)).fld 7 2 (.slice AS q cS) rfl (by omega) (by simp)).fld 7 3 (.slice AV q cV) rfl (by omega) (by simp)
          have hF2 := hF.perm (L' := (rowsK g gl q (coE q M j) AO cO [lstC AC j cC (coC q M), lstI AS q cS (fun i => .int .i64 ((coE q M j).S i : Nat)), lstI AV q cV (fun i => .int .i64 ((coE q M j).V i)), blkC w.heap.size [.slice AC j cC, .slice AO (coE q M j).ops.length cO, .slice AS q cS, .slice AV q cV]])) [0, 1, 2, 3, 5, 6, 7] (by decide) rfl
          clear hF e0 e1 e2 e3 r0 r1 r2 r3 g0 g1 g2 g3
          generalize (((wr.setCell ⟨w.heap.size, 0, none⟩ (.slice AC j cC)).setCell ⟨w.heap.size, 1, none⟩ (.slice AO (coE q M j).ops.length cO)).setCell ⟨w.heap.size, 2, none⟩ (.slice AS q cS)).setCell ⟨w.heap.size, 3, none⟩ (.slice AV q cV) = W9 at hF2 ⊢
          have r0 : W9.cell? ⟨w.heap.size, 0, none⟩ = some (.slice AC j cC) := hF2.cellB 6 rfl 0 (by omega)
          have r1 : W9.cell? ⟨w.heap.size, 1, none⟩ = some (.slice AO (coE q M j).ops.length cO) := hF2.cellB 6 rfl 1 (by omega)
          have r2 : W9.cell? ⟨w.heap.size, 2, none⟩ = some (.slice AS q cS) := hF2.cellB 6 rfl 2 (by omega)
          have r3 : W9.cell? ⟨w.heap.size, 3, none⟩ = some (.slice AV q cV) := hF2.cellB 6 rfl 3 (by omega)
          exact bodyPost_ret (v := .tuple #[.agg #[.slice AC j cC, .slice AO (coE q M j).ops.length cO, .slice AS q cS, .slice AV q cV], .int .i64 0]) (by simp [results, Try.results7, go_sem, r0, r1, r2, r3]) rfl ⟨_, rfl, g, gl, w.heap.size, AO, cO, AC, cC, AS, cS, AV, cV, rfl, hF2⟩
set_option maxRecDepth 100000 in
set_option maxHeartbeats 1600000 in
theorem co_bad (n : Int) (m cap : Nat) (A : Option Addr) (w : World) (hm : m ≤ maxLen) (hb : ¬ (1 ≤ n ∧ n ≤ 6 ∧ (m : Int) ≤ 60)) :
    Calls Try.prog 7 #[.int .i64 n, .slice A m cap] w fun e w' => e = .returned (.tuple #[.agg #[.slice none 0 0, .slice none 0 0, .slice none 0 0, .slice none 0 0], .int .i64 1]) ∧ Below w.heap.size w w' := by
  unfold maxLen at hm
  have h' : n < 1 ∨ 6 < n ∨ 60 < (m : Int) := by omega
  clear hb
  go_enter Try.func7, Try.ntmps7
  go_wp2
  all_goals first
    | (exfalso; omega)
    | ((try simp only [Exit.inBlock, Exit.then]); refine bodyPost_ret (v := .tuple #[.agg #[.slice none 0 0, .slice none 0 0, .slice none 0 0, .slice none 0 0], .int .i64 1]) (by simp [results, Try.results7, go_sem]) rfl ?_; exact ⟨rfl, (((((Below.refl _ _).alloc (Nat.le_refl _) _).setCell (by simp) _).setCell (by simp) _).setCell (by simp) _).setCell (by simp) _⟩)
    | ((try simp only [Exit.inBlock, Exit.then]); refine bodyPost_ret (v := .tuple #[.agg #[.slice none 0 0, .slice none 0 0, .slice none 0 0, .slice none 0 0], .int .i64 1]) (by simp [results, Try.results7, go_sem]) rfl ?_; exact ⟨rfl, (Below.refl _ _).alloc (Nat.le_refl _) _⟩)
end Go.Proofs.Ytoakgoigamigjaa
