/- The walk of quiet.Play. -/
import Derived.Test.YtfcgjmekeonemaaQu3
import Derived.Test.YtfcgjmekeonemaaRng
import Derived.Test.YtfcgjmekeonemaaMv
import Derived.Deep.CutRange
import Derived.Deep.CutBlock
set_option linter.unusedVariables false
set_option linter.unusedSimpArgs false
namespace Go.Proofs.Ytfcgjmekeonemaa
open Go.RowKit Go.Maps Go.MapKept

theorem infoErrnoQ : (Try.prog.info? 27).map (fun i => (i.zero, i.size, i.bytes)) = some (some (.int .i64 0), 1, 8) := by kernel_rfl
theorem infoIntQ : (Try.prog.info? 3).map (fun i => (i.zero, i.size, i.bytes)) = some (some (.int .i64 0), 1, 8) := by kernel_rfl
abbrev blkQ (b : Nat) (l : List Value) : LRow := blk b 26 4 (ofL l)
abbrev zeroQL : List Value := [.slice none 0 0, .bool false, .int .u32 0, .int .i64 0]
abbrev lstC (A : Option Addr) (m cap : Nat) (fc : Nat → Int) : LRow := lst A 27 m cap (fun i => .int .i64 (fc i))
abbrev lstN (A : Option Addr) (m cap : Nat) (F : Nat → Nat) : LRow := lst A 3 m cap (fun i => .int .i64 (F i : Nat))
abbrev mvR (q : Nat) (k f t v : Int) : LRow := blk q 41 4 (ofL [.int .i64 k, .int .i64 f, .int .i64 t, .int .i64 v])
abbrev hdQ0 (g go n bm : Nat) (A : Option Addr) (q cap : Nat) : LRow := blk g 45 5 (ofL [.int .i64 n, .int .u32 1, .slice (some ⟨go, 0, none⟩) n n, .slice A q cap, .map (some bm)])
/-- What the loads of 'q.Codes = append(q.Codes, s.do(m))' read. -/
def MvS (b q : Nat) (C : Value) (k f t v : Int) (w : World) : Prop :=
  w.cell? ⟨b, 0, none⟩ = some C ∧ w.cell? ⟨q, 0, none⟩ = some (.int .i64 k) ∧ w.cell? ⟨q, 1, none⟩ = some (.int .i64 f) ∧ w.cell? ⟨q, 2, none⟩ = some (.int .i64 t) ∧ w.cell? ⟨q, 3, none⟩ = some (.int .i64 v)
theorem MvS.of {w0 w : World} {L : List LRow} {b q : Nat} {ty : TypeId} {sz : Nat} {l : List Value} {C : Value} {k f t v : Int} (h : Lay w0 w L) (i j : Nat) (hi : L[i]? = some (blk b ty sz (ofL (C :: l)))) (hs : 0 < sz) (hj : L[j]? = some (mvR q k f t v)) : MvS b q C k f t v w :=
  ⟨h.cellB i hi 0 hs, h.cellB j hj 0 (by omega), h.cellB j hj 1 (by omega), h.cellB j hj 2 (by omega), h.cellB j hj 3 (by omega)⟩
/-- What the loads of the last region read. -/
def DoneS (g go n : Nat) (wk : Value) (ow : Value) (w : World) : Prop := w.cell? ⟨g, 1, none⟩ = some wk ∧ w.cell? ⟨g, 2, none⟩ = some (.slice (some ⟨go, 0, none⟩) n n) ∧ w.cell? ⟨go, 0, none⟩ = some ow
theorem way_val {n m : Nat} {s : QS} {es : Array MapEntry} {c : Nat} (h : wayφ n m s es c) : ∀ x ∈ es.toList, ∃ a : Nat × Nat, (a.1 < n ∧ a.2 < n) ∧ x.key = keyQ a ∧ x.val = .int .i64 (s.way a) := fun x hx => by
  obtain ⟨a, ha, hk⟩ := h.dom x hx
  exact ⟨a, ha, hk, (h.val x hx a hk).symm⟩
theorem way_total {n m : Nat} {s : QS} {es : Array MapEntry} {c : Nat} (h : wayφ n m s es c) (h0 : ∀ p, 0 ≤ s.way p) : 0 ≤ (es.toList.map fun e => valOf e.val).sum ∧ ((es.toList.map fun e => valOf e.val).sum = 0 ↔ ∀ f t, f < n → t < n → s.way (f, t) = 0) := by
  obtain ⟨h1, h2⟩ := sum_zero_iff (es.toList.map fun e => valOf e.val) fun x hx => by
    obtain ⟨e, he, rfl⟩ := List.mem_map.1 hx
    obtain ⟨a, _, _, hv⟩ := way_val h e he
    rw [hv]; exact h0 a
  refine ⟨h1, h2.trans ⟨fun hz f t hf ht => ?_, fun hz x hx => ?_⟩⟩
  · by_cases hex : ∃ e ∈ es.toList, e.key = keyQ (f, t)
    · obtain ⟨e, he, hk⟩ := hex
      have hv := h.val e he (f, t) hk
      have := hz _ (List.mem_map.2 ⟨e, he, rfl⟩)
      rw [← hv] at this
      exact this
    · have := h.none_ (f, t) fun x hx hk => hex ⟨x, hx, hk⟩
      simpa using this
  · obtain ⟨e, he, rfl⟩ := List.mem_map.1 hx
    obtain ⟨a, ha, _, hv⟩ := way_val h e he
    rw [hv]
    exact hz a.1 a.2 ha.1 ha.2
set_option maxRecDepth 100000 in
set_option maxHeartbeats 1600000 in
theorem qu_good (n m cap B : Nat) (A : Option Addr) (M : Mv) (w : World) (hn1 : 1 ≤ n) (hn : n ≤ 6) (hm : m ≤ 60) (hB : B ≤ w.heap.size) (hr : Rd w B A (m * 4) (mvF M)) :
    Calls Try.prog 8 #[.int .i64 n, .slice A m cap] w (Gives fun v w' => ∃ AC cC, ∃ Wy : Int, v = .tuple #[.agg #[.slice AC m cC, .bool (quDone (quE n M m)), .int .u32 ((quE n M m).works : Nat), .int .i64 Wy], .int .i64 0] ∧
      (0 ≤ Wy ∧ (Wy = 0 ↔ ∀ f t, f < n → t < n → (quE n M m).way (f, t) = 0)) ∧ Lay w w' [lstC AC m cC (quC n M)]) := by
  have HR := Lib.hid hr; clear hr
  obtain ⟨iE, hiE, hzE0, hzE1, hzE2⟩ := info_parts infoErrnoQ
  obtain ⟨iI, hiI, hzI0, hzI1, hzI2⟩ := info_parts infoIntQ
  go_enter Try.func8, Try.ntmps8
  have H0 := Lib.hid (((LayM.newB (Lay.toM (Lay.nil w)) zeroQL 26 4 rfl _ rfl)))
  go_wp2_with (at_make; refine wpList_mk1 rfl (.tmp 26) (.tmp 26) _ rfl 3 iI _ 8 Try.underlying34 hiI hzI0 hzI1 hzI2 rfl .i64 .i64 n rfl rfl (by omega) (by unfold maxLen; omega) w.heap.size (w.heap.size + 1) (by simp) (by omega) ?_; intro w2 ho2 he2
               have HL2 : Hid (LayM w w2 (arr (w.heap.size + 1) 3 n (fun i => .int .i64 (QS0.owed i)) :: blkQ w.heap.size zeroQL :: []) []) := by
                 rw [he2]
                 exact H0.out.make _ rfl n (by unfold maxLen; omega) _ _ (fun _ _ => rfl) _ (by simp)
               have hmk : (Instr.makeMap 43 none).run Try.prog w2 = .ok (.map (some w2.heap.size)) (w2.alloc (.map #[] 0)) := rfl
               clear he2 ho2 H0)
  have HL3 : Hid (∃ g go bm br, g = w2.heap.size + 1 ∧ go = w.heap.size + 1 ∧ bm = w2.heap.size ∧ br = w.heap.size ∧ LayM w ((w2.alloc (.map #[] 0)).alloc (.cells #[.int .i64 n, .int .u32 1, .slice (some ⟨go, 0, none⟩) n n, .slice none 0 0, .map (some bm)] 45)) [hdQ0 g go n bm none 0 0, owR go n QS0, lstN none 0 0 (fun i => i), blkQ br zeroQL] (mapQ n 0 bm QS0)) :=
    Lib.hid ⟨_, _, _, _, rfl, rfl, rfl, rfl, (((HL2.out.newM (wayφ n 0 QS0) (EMap.empty _ _ _ _ _) _ rfl).newB [.int .i64 n, .int .u32 1, .slice (some ⟨_, 0, none⟩) n n, .slice none 0 0, .map (some _)] 45 5 rfl _ (by simp)).lnil 3 1 (fun i => .int .i64 (i : Nat))).perm [1, 2, 0, 3] (by decide) rfl⟩
  obtain ⟨g, go, bm, br, hg, hgo, hbm, hbr, hL⟩ := HL3.out
  rw [← hg, ← hgo, ← hbm, ← hbr]
  have HL4 := Lib.hid hL
  clear hL HL3 HL2 hg hgo hbm hbr
  go_loopw [32] (fun i wr => ∃ q : Nat, q ≤ n ∧ i = .int .i64 q ∧ ∃ AB cB, Hid (LayM w wr [hdQ0 g go n bm AB q cB, owR go n QS0, lstN AB q cB (fun i => i), blkQ br zeroQL] (mapQ n 0 bm QS0))) (fun i _ => n - (intOf i).toNat)
  case atStart => exact ⟨0, by omega, rfl, none, 0, HL4⟩
  case round =>
    clear HL4
    obtain ⟨q, hq, rfl, AB, cB, HQ⟩ := hrel
    by_cases hlt : q < n
    · have c3 := HQ.out.lay.cellB 0 rfl 3 (by omega)
      simp only [ofL_3] at c3
      go_wp2_with (at_builtin; refine wpList_ap1 rfl (.tmp 39) (.tmp 41) _ rfl 3 iI _ 8 Try.underlying34 hiI hzI0 hzI1 hzI2 rfl w.heap.size rfl ((HQ.out.lay.alloc _).own 2 _ rfl) rfl (cell_new _ _ _ _ _ rfl (one_cell _)) (fun _ _ => rfl) (fun i => .int .i64 (i : Nat)) (fun _ _ => rfl) (one_at rfl) (q + 1) rfl (by unfold maxLen; omega) (by omega) (by have := HQ.out.size; simp; omega) ?_; intro A2 cap2 w4 ho hg ha
                   have H4 := Lib.hid ((HQ.out.alloc _).app 2 rfl ho hg ha)
                   have c3 := H4.out.lay.cellB 0 rfl 3 (by omega)
                   simp only [ofL_3] at c3
                   have f3 := H4.out.lay.frz 0 rfl (by omega) 3
                   clear ho hg ha)
      go_roundw
      case rel => exact ⟨q + 1, by omega, by go_num, A2, cap2, H4.out.fld 0 3 (.slice A2 (q + 1) cap2) rfl (by omega) (by simp)⟩
      case measure => simp [intOf]; omega
    · obtain rfl : q = n := by omega
      obtain ⟨gb, rfl, -, -⟩ := (HQ.out.lay.own 2 _ rfl).pos1 (show 0 < q by omega)
      go_wp2
      have HL : Hid (∃ be, wr.heap.size = be ∧ LayM w (wr.alloc (.cells #[.slice none 0 0, .bool false, .int .u32 0, .int .i64 0] 26)) (rowsQ g go gb q cB bm (quE q M 0) [lstC none 0 0 (quC q M), blkQ be zeroQL, blkQ br zeroQL]) (mapQ q 0 bm (quE q M 0))) :=
        ⟨_, rfl, ((HQ.out.newB zeroQL 26 4 rfl _ rfl).lnil 27 1 (fun i => .int .i64 (quC q M i))).perm [2, 3, 4, 0, 1, 5] (by decide) rfl⟩
      obtain ⟨be, hbe, hL⟩ := HL.out
      rw [hbe]
      have HL0 := Lib.hid hL
      clear hL hbe HL HQ
      go_loopw [48] (fun i wr => ∃ j : Nat, j ≤ m ∧ i = .int .i64 j ∧ ∃ AC cC, Hid (LayM w wr (rowsQ g go gb q cB bm (quE q M j) [lstC AC j cC (quC q M), blkQ be [.slice AC j cC, .bool false, .int .u32 0, .int .i64 0], blkQ br zeroQL]) (mapQ q j bm (quE q M j)))) (fun i _ => m - (intOf i).toNat)
      case atStart => exact ⟨0, by omega, rfl, none, 0, HL0⟩
      case round =>
        clear HL0
        obtain ⟨j, hj, rfl, AC, cC, HQ⟩ := hrel
        by_cases hlt : j < m
        · obtain ⟨ad, rfl, hbl, m0, m1, m2, m3⟩ := (HR.out.below (HQ.out.lay.bel.mono hB)).rec4 hlt
          clear hbl
          go_wp2
          clear m0 m1 m2 m3
          have HQ1 : Hid (LayM w (wr.alloc (.cells #[.int .i64 (M.k j), .int .i64 (M.f j), .int .i64 (M.t j), .int .i64 (M.v j)] 41)) (rowsQ g go gb q cB bm (quE q M j) [lstC AC j cC (quC q M), blkQ be [.slice AC j cC, .bool false, .int .u32 0, .int .i64 0], mvR wr.heap.size (M.k j) (M.f j) (M.t j) (M.v j), blkQ br zeroQL]) (mapQ q j bm (quE q M j))) :=
            (HQ.out.newB [.int .i64 (M.k j), .int .i64 (M.f j), .int .i64 (M.t j), .int .i64 (M.v j)] 41 4 rfl _ rfl).perm [1, 2, 3, 4, 5, 0, 6] (by decide) rfl
          refine at_layM (F := fun W' => Code.wp _ _ _ _ W') HQ1.out ?_
          intro W hW
          have HW := Lib.hid hW
          clear hW HQ1 HQ
          generalize wr.heap.size = x at HW ⊢
          have hs : MvS be x (.slice AC j cC) (M.k j) (M.f j) (M.t j) (M.v j) W := MvS.of HW.out.lay 4 5 rfl (by omega) rfl
          have hJ := Lib.hid (quE_J hn1 hn M j)
          have h1 := Lib.hid (quE_B (n := q) M j)
          refine wp_held_mask (MvS be x (.slice AC j cC) (M.k j) (M.f j) (M.t j) (M.v j)) [true, true, true, true, false, false, false, false, false] ?A1 (by kernel_rfl) rfl (by kernel_rfl) (by repeat' (first | (with_reducible apply tame_then) | (with_reducible apply tame_block) | (with_reducible apply tame_scope) | exact tame_gives | exact tame_body (fun _ _ h => ⟨_, h.1⟩))) hs ?head ?tail
          case head =>
            intro W5 ⟨s0, s1, s2, s3, s4⟩
            simp only [pick]
            go_wp2
            exact taken
          case tail =>
            clear hs
            simp only [pick, List.map_cons, List.map_nil, Bool.not_true, Bool.not_false]
            refine tail_step ?_
            go_wp2_with fail
            refine (do_any g go gb q cB bm j (quE q M j) _ w _ (M.k j) (M.f j) (M.t j) (M.v j) hn hJ.out (fun i _ => by have := h1.out.1 i; omega) (fun p => by have := h1.out.2 p; omega) (by omega) (by exact HW.out.sim ⟨rfl, rfl, rfl, rfl⟩)).mono ?_
            rintro e w3 ⟨rfl, h3⟩
            have H3 : Hid (LayM w w3 (rowsQ g go gb q cB bm (quE q M (j + 1)) [lstC AC j cC (quC q M), blkQ be [.slice AC j cC, .bool false, .int .u32 0, .int .i64 0], mvR x (M.k j) (M.f j) (M.t j) (M.v j), blkQ br zeroQL]) (mapQ q (j + 1) bm (quE q M (j + 1)))) := h3
            clear h3 HW hJ h1
            go_wp2
            refine holds (MvS.of H3.out.lay 4 5 rfl (by omega) rfl) ?_
            refine tail_step ?_
            go_wp2
            refine holds (MvS.of (H3.out.lay.alloc _) 4 5 rfl (by omega) rfl) ?_
            refine tail_step ?_
            refine wpList_ap1 rfl (.tmp 53) (.tmp 57) _ rfl 27 iE _ 8 Try.underlying23 hiE hzE0 hzE1 hzE2 rfl w.heap.size rfl ((H3.out.lay.alloc _).own 3 _ rfl) rfl (cell_new _ _ _ _ _ rfl (one_cell _)) (fun _ _ => rfl) (fun i => .int .i64 (quC q M i)) (fun _ _ => rfl) (one_at rfl) (j + 1) rfl (by unfold maxLen; omega) (by omega) (by have := H3.out.size; simp; omega) ?_
            intro A2 cap2 w4 ho hg ha
            have H4 : Hid (LayM w w4 (rowsQ g go gb q cB bm (quE q M (j + 1)) [lstC A2 (j + 1) cap2 (quC q M), blkQ be [.slice AC j cC, .bool false, .int .u32 0, .int .i64 0], mvR x (M.k j) (M.f j) (M.t j) (M.v j), blkQ br zeroQL]) (mapQ q (j + 1) bm (quE q M (j + 1)))) := (H3.out.alloc _).app 3 rfl ho hg ha
            clear ho hg ha H3
            have HS4 := Lib.hid (MvS.of H4.out.lay 4 5 rfl (by omega) rfl : MvS be x (.slice AC j cC) (M.k j) (M.f j) (M.t j) (M.v j) w4)
            have d0 := HS4.out.1
            have e0 := H4.out.lay.frz 4 rfl (by omega) 0
            go_wp2
            refine holds HS4.out ?_
            refine tail_step ?_
            go_wp2
            refine holds HS4.out ?_
            refine tail_last ?_
            go_wp2
            go_roundw
            case rel => exact ⟨j + 1, by omega, by go_num, A2, cap2, (H4.out.fld 4 0 (.slice A2 (j + 1) cap2) rfl (by omega) (by simp)).perm [0, 1, 2, 3, 4, 6] (by decide) rfl⟩
            case measure => simp [intOf]; omega
        · obtain rfl : j = m := by omega
          obtain ⟨es, c, hb, hφ⟩ := HQ.out.mp 0 rfl
          have c4 := (qu_heads HQ.out).2.2.2.2
          have hrg : (Instr.range 43 (.map (some bm))).run Try.prog wr = .ok (.pointer (some ⟨wr.heap.size, 0, none⟩)) (wr.alloc (.mapIter (some bm) c #[] c)) := run_range_map wr _ _ _ bm es c Try.underlying43 hb
          have HI0 := Lib.hid (ItS.start hb)
          have HL0 := Lib.hid (HQ.out.lay.alloc (.mapIter (some bm) c #[] c))
          have HP := Lib.hid hφ
          have hsz := HQ.out.size
          clear hb hφ HQ
          go_wp2
          clear hrg c4
          generalize wr.alloc (.mapIter (some bm) c #[] c) = W at HI0 HL0 ⊢
          generalize wr.heap.size = r at HI0 hsz ⊢
          have HB0 := Lib.hid (way_total HP.out (quE_J hn1 hn M j).way)
          go_loopg [] (leftOf es #[]).size (fun k wr => ∃ seen, k = (leftOf es seen).size ∧ Hid (ItS wr bm r es c seen) ∧ Hid (Lay w wr (rowsQ g go gb q cB bm (quE q M j) [lstC AC j cC (quC q M), blkQ be [.slice AC j cC, .bool false, .int .u32 0, .int .i64 (seenSum es.toList seen)], blkQ br zeroQL])))
          case atStart => exact ⟨#[], rfl, HI0, by rw [seenSum_none]; exact HL0⟩
          case round =>
            clear HI0 HL0
            obtain ⟨seen, hk, HI, HQ⟩ := hrel
            have HK := Lib.hid hk
            clear hk
            rcases HI.out.next (P := Try.prog) HP.out.stamped 0 with ⟨h0, hnx⟩ | ⟨e, he, w2, hnx, hI2, hent, hL2⟩
            · have HZ := Lib.hid h0
              clear h0
              have hwl : (quE q M j).works < 4294967296 := by have := (quE_J hn1 hn M j).works; have := pow64 hn; omega
              have hbn : bits .and .u32 ((quE q M j).works : Int) 1 = if (quE q M j).works.testBit 0 then 1 else 0 := by
                have := bit_num (i := 0) hwl
                rw [show (((quE q M j).works : Int) / 2 ^ 0) = ((quE q M j).works : Int) by simp] at this
                exact this
              have d1 : wr.cell? ⟨g, 1, none⟩ = some (.int .u32 ((quE q M j).works : Nat)) := HQ.out.cellB 0 rfl 1 (by omega)
              have d2 : wr.cell? ⟨g, 2, none⟩ = some (.slice (some ⟨go, 0, none⟩) q q) := HQ.out.cellB 0 rfl 2 (by omega)
              have o0 : wr.cell? ⟨go, 0, none⟩ = some (.int .i64 ((quE q M j).owed 0)) := HQ.out.cell1 1 rfl (show 0 < q by omega)
              have f2 := HQ.out.frz 4 rfl (by omega) 2
              have b2 : wr.cell? ⟨be, 2, none⟩ = some (.int .u32 0) := HQ.out.cellB 4 rfl 2 (by omega)
              have HT := Lib.hid (seenSum_all es seen HZ.out)
              have hcase : ∃ d, quDone (quE q M j) = d ∧ ((bits .and .u32 ((quE q M j).works : Int) 1 = 1 ∧ d = false) ∨ (bits .and .u32 ((quE q M j).works : Int) 1 = 0 ∧ (quE q M j).owed 0 = 0 ∧ d = true) ∨ (bits .and .u32 ((quE q M j).works : Int) 1 = 0 ∧ ((quE q M j).owed 0 == 0) = false ∧ d = false)) := by
                refine ⟨_, rfl, ?_⟩
                rw [hbn]
                unfold quDone
                by_cases h1 : (quE q M j).works.testBit 0 = true
                · rw [h1]; exact .inl ⟨rfl, rfl⟩
                · have h1 : (quE q M j).works.testBit 0 = false := by simpa using h1
                  rw [h1]
                  by_cases h2 : (quE q M j).owed 0 = 0
                  · rw [h2]; exact .inr (.inl ⟨rfl, rfl, rfl⟩)
                  · exact .inr (.inr ⟨rfl, by simpa using h2, by simp [h2]⟩)
              clear hbn hwl
              obtain ⟨d, hd, hcase⟩ := hcase
              have HD := Lib.hid hd
              clear hd
              go_wp2
              rcases hcase with ⟨k1, rfl⟩ | ⟨k1, k2, rfl⟩ | ⟨k1, k2, rfl⟩
              · refine wp_held_mask (DoneS g go q (.int .u32 ((quE q M j).works : Nat)) (.int .i64 ((quE q M j).owed 0))) [true, true, true, true, true, true, true, true, true, true, true, true, true, true, true, true, true, true, true, true, false, false, false] ?A71 (by kernel_rfl) rfl (by kernel_rfl) (by repeat' (first | (with_reducible apply tame_then) | (with_reducible apply tame_block) | (with_reducible apply tame_scope) | exact tame_gives | exact tame_body (fun _ _ h => ⟨_, h.1⟩))) ⟨d1, d2, o0⟩ ?head71 ?tail71
                case head71 =>
                  intro W5 ⟨s0, s1, s2⟩
                  simp only [pick]
                  go_wp2
                  exact taken
                case tail71 =>
                  simp only [pick, List.map_cons, List.map_nil, Bool.not_true, Bool.not_false]
                  have H2 := Lib.hid (HQ.out.drew.fld 4 2 (.int .u32 ((quE q M j).works : Nat)) rfl (by omega) (by simp))
                  have hS2 : DoneS g go q (.int .u32 ((quE q M j).works : Nat)) (.int .i64 ((quE q M j).owed 0)) (wr.drew.setCell ⟨be, 2, none⟩ (.int .u32 ((quE q M j).works : Nat))) := ⟨H2.out.cellB 0 rfl 1 (by omega), H2.out.cellB 0 rfl 2 (by omega), (H2.out.cell1 1 rfl (show 0 < q by omega)).trans rfl⟩
                  have HS2 := Lib.hid hS2
                  clear hS2
                  refine tail_step ?_
                  go_wp2
                  refine holds HS2.out ?_
                  refine tail_step ?_
                  go_wp2
                  refine holds HS2.out ?_
                  refine tail_last ?_
                  refine at_lay (F := fun W' => wpList _ _ _ _ _ W') H2.out ?_
                  intro W9 hW9
                  clear d1 d2 o0 f2 b2 HS2 H2 HQ
                  have HQ := Lib.hid hW9
                  clear hW9
                  have e0 := HQ.out.cellB 4 rfl 0 (by omega)
                  have e1 := HQ.out.cellB 4 rfl 1 (by omega)
                  have e2 := HQ.out.cellB 4 rfl 2 (by omega)
                  have e3 := HQ.out.cellB 4 rfl 3 (by omega)
                  simp only [List.set_cons_succ, List.set_cons_zero, ofL_0, ofL_1, ofL_2, ofL_3] at e0 e1 e2 e3
                  have r0 := HQ.out.cellB 5 rfl 0 (by omega)
                  have r1 := HQ.out.cellB 5 rfl 1 (by omega)
                  have r2 := HQ.out.cellB 5 rfl 2 (by omega)
                  have r3 := HQ.out.cellB 5 rfl 3 (by omega)
                  simp only [ofL_0, ofL_1, ofL_2, ofL_3] at r0 r1 r2 r3
                  have f1 := HQ.out.frz 4 rfl (by omega) 1
                  have g0 := HQ.out.frz 5 rfl (by omega) 0
                  have g1 := HQ.out.frz 5 rfl (by omega) 1
                  have g2 := HQ.out.frz 5 rfl (by omega) 2
                  have g3 := HQ.out.frz 5 rfl (by omega) 3
                  have hne := HQ.out.ne_ 4 5 rfl rfl (by omega)
                  have hF := ((((HQ.out.fld 4 1 (.bool false) rfl (by omega) (by simp)).fld 5 0 (.slice AC j cC) rfl (by omega) (by simp)).fld 5 1 (.bool false) rfl (by omega) (by simp)).fld 5 2 (.int .u32 ((quE q M j).works : Nat)) rfl (by omega) (by simp)).fld 5 3 (.int .i64 (seenSum es.toList seen)) rfl (by omega) (by simp)
                  have HF := Lib.hid (hF.perm (L' := [lstC AC j cC (quC q M), blkQ br [.slice AC j cC, .bool false, .int .u32 ((quE q M j).works : Nat), .int .i64 (seenSum es.toList seen)]]) [3, 5] (by decide) rfl)
                  clear hF
                  go_wp2
                  have HF2 := HF.out
                  clear e0 e1 e2 e3 r0 r1 r2 r3 f1 g0 g1 g2 g3 HQ
                  generalize ((((W9.setCell ⟨be, 1, none⟩ (.bool false)).setCell ⟨br, 0, none⟩ (.slice AC j cC)).setCell ⟨br, 1, none⟩ (.bool false)).setCell ⟨br, 2, none⟩ (.int .u32 ((quE q M j).works : Nat))).setCell ⟨br, 3, none⟩ (.int .i64 (seenSum es.toList seen)) = W8 at HF2 ⊢
                  have r0 : W8.cell? ⟨br, 0, none⟩ = some (.slice AC j cC) := HF2.cellB 1 rfl 0 (by omega)
                  have r1 : W8.cell? ⟨br, 1, none⟩ = some (.bool false) := HF2.cellB 1 rfl 1 (by omega)
                  have r2 : W8.cell? ⟨br, 2, none⟩ = some (.int .u32 ((quE q M j).works : Nat)) := HF2.cellB 1 rfl 2 (by omega)
                  have r3 : W8.cell? ⟨br, 3, none⟩ = some (.int .i64 (seenSum es.toList seen)) := HF2.cellB 1 rfl 3 (by omega)
                  exact bodyPost_ret (v := .tuple #[.agg #[.slice AC j cC, .bool false, .int .u32 ((quE q M j).works : Nat), .int .i64 (seenSum es.toList seen)], .int .i64 0]) (by simp [results, Try.results8, go_sem, r0, r1, r2, r3]) rfl ⟨_, rfl, AC, cC, seenSum es.toList seen, by rw [HD.out], by rw [HT.out]; exact HB0.out, HF2.perm [0] (by decide) rfl⟩
              · rw [k2] at o0
                have HE : Hid (some (Value.int .i64 ((quE q M j).owed 0)) = some (.int .i64 0)) := Lib.hid (by rw [k2])
                clear k2
                refine wp_held_mask (DoneS g go q (.int .u32 ((quE q M j).works : Nat)) (.int .i64 0)) [true, true, true, true, true, true, true, true, true, true, true, true, true, true, true, true, true, true, true, true, false, false, false] ?A72 (by kernel_rfl) rfl (by kernel_rfl) (by repeat' (first | (with_reducible apply tame_then) | (with_reducible apply tame_block) | (with_reducible apply tame_scope) | exact tame_gives | exact tame_body (fun _ _ h => ⟨_, h.1⟩))) ⟨d1, d2, o0⟩ ?head72 ?tail72
                case head72 =>
                  intro W5 ⟨s0, s1, s2⟩
                  simp only [pick]
                  go_wp2
                  exact taken
                case tail72 =>
                  simp only [pick, List.map_cons, List.map_nil, Bool.not_true, Bool.not_false]
                  have H2 := Lib.hid (HQ.out.drew.fld 4 2 (.int .u32 ((quE q M j).works : Nat)) rfl (by omega) (by simp))
                  have hS2 : DoneS g go q (.int .u32 ((quE q M j).works : Nat)) (.int .i64 0) (wr.drew.setCell ⟨be, 2, none⟩ (.int .u32 ((quE q M j).works : Nat))) := ⟨H2.out.cellB 0 rfl 1 (by omega), H2.out.cellB 0 rfl 2 (by omega), (H2.out.cell1 1 rfl (show 0 < q by omega)).trans HE.out⟩
                  have HS2 := Lib.hid hS2
                  clear hS2
                  refine tail_step ?_
                  go_wp2
                  refine holds HS2.out ?_
                  refine tail_step ?_
                  go_wp2
                  refine holds HS2.out ?_
                  refine tail_last ?_
                  refine at_lay (F := fun W' => wpList _ _ _ _ _ W') H2.out ?_
                  intro W9 hW9
                  clear d1 d2 o0 f2 b2 HS2 H2 HQ
                  have HQ := Lib.hid hW9
                  clear hW9
                  have e0 := HQ.out.cellB 4 rfl 0 (by omega)
                  have e1 := HQ.out.cellB 4 rfl 1 (by omega)
                  have e2 := HQ.out.cellB 4 rfl 2 (by omega)
                  have e3 := HQ.out.cellB 4 rfl 3 (by omega)
                  simp only [List.set_cons_succ, List.set_cons_zero, ofL_0, ofL_1, ofL_2, ofL_3] at e0 e1 e2 e3
                  have r0 := HQ.out.cellB 5 rfl 0 (by omega)
                  have r1 := HQ.out.cellB 5 rfl 1 (by omega)
                  have r2 := HQ.out.cellB 5 rfl 2 (by omega)
                  have r3 := HQ.out.cellB 5 rfl 3 (by omega)
                  simp only [ofL_0, ofL_1, ofL_2, ofL_3] at r0 r1 r2 r3
                  have f1 := HQ.out.frz 4 rfl (by omega) 1
                  have g0 := HQ.out.frz 5 rfl (by omega) 0
                  have g1 := HQ.out.frz 5 rfl (by omega) 1
                  have g2 := HQ.out.frz 5 rfl (by omega) 2
                  have g3 := HQ.out.frz 5 rfl (by omega) 3
                  have hne := HQ.out.ne_ 4 5 rfl rfl (by omega)
                  have hF := ((((HQ.out.fld 4 1 (.bool true) rfl (by omega) (by simp)).fld 5 0 (.slice AC j cC) rfl (by omega) (by simp)).fld 5 1 (.bool true) rfl (by omega) (by simp)).fld 5 2 (.int .u32 ((quE q M j).works : Nat)) rfl (by omega) (by simp)).fld 5 3 (.int .i64 (seenSum es.toList seen)) rfl (by omega) (by simp)
                  have HF := Lib.hid (hF.perm (L' := [lstC AC j cC (quC q M), blkQ br [.slice AC j cC, .bool true, .int .u32 ((quE q M j).works : Nat), .int .i64 (seenSum es.toList seen)]]) [3, 5] (by decide) rfl)
                  clear hF
                  go_wp2
                  have HF2 := HF.out
                  clear e0 e1 e2 e3 r0 r1 r2 r3 f1 g0 g1 g2 g3 HQ
                  generalize ((((W9.setCell ⟨be, 1, none⟩ (.bool true)).setCell ⟨br, 0, none⟩ (.slice AC j cC)).setCell ⟨br, 1, none⟩ (.bool true)).setCell ⟨br, 2, none⟩ (.int .u32 ((quE q M j).works : Nat))).setCell ⟨br, 3, none⟩ (.int .i64 (seenSum es.toList seen)) = W8 at HF2 ⊢
                  have r0 : W8.cell? ⟨br, 0, none⟩ = some (.slice AC j cC) := HF2.cellB 1 rfl 0 (by omega)
                  have r1 : W8.cell? ⟨br, 1, none⟩ = some (.bool true) := HF2.cellB 1 rfl 1 (by omega)
                  have r2 : W8.cell? ⟨br, 2, none⟩ = some (.int .u32 ((quE q M j).works : Nat)) := HF2.cellB 1 rfl 2 (by omega)
                  have r3 : W8.cell? ⟨br, 3, none⟩ = some (.int .i64 (seenSum es.toList seen)) := HF2.cellB 1 rfl 3 (by omega)
                  exact bodyPost_ret (v := .tuple #[.agg #[.slice AC j cC, .bool true, .int .u32 ((quE q M j).works : Nat), .int .i64 (seenSum es.toList seen)], .int .i64 0]) (by simp [results, Try.results8, go_sem, r0, r1, r2, r3]) rfl ⟨_, rfl, AC, cC, seenSum es.toList seen, by rw [HD.out], by rw [HT.out]; exact HB0.out, HF2.perm [0] (by decide) rfl⟩
              · refine wp_held_mask (DoneS g go q (.int .u32 ((quE q M j).works : Nat)) (.int .i64 ((quE q M j).owed 0))) [true, true, true, true, true, true, true, true, true, true, true, true, true, true, true, true, true, true, true, true, false, false, false] ?A73 (by kernel_rfl) rfl (by kernel_rfl) (by repeat' (first | (with_reducible apply tame_then) | (with_reducible apply tame_block) | (with_reducible apply tame_scope) | exact tame_gives | exact tame_body (fun _ _ h => ⟨_, h.1⟩))) ⟨d1, d2, o0⟩ ?head73 ?tail73
                case head73 =>
                  intro W5 ⟨s0, s1, s2⟩
                  simp only [pick]
                  go_wp2
                  exact taken
                case tail73 =>
                  simp only [pick, List.map_cons, List.map_nil, Bool.not_true, Bool.not_false]
                  have H2 := Lib.hid (HQ.out.drew.fld 4 2 (.int .u32 ((quE q M j).works : Nat)) rfl (by omega) (by simp))
                  have hS2 : DoneS g go q (.int .u32 ((quE q M j).works : Nat)) (.int .i64 ((quE q M j).owed 0)) (wr.drew.setCell ⟨be, 2, none⟩ (.int .u32 ((quE q M j).works : Nat))) := ⟨H2.out.cellB 0 rfl 1 (by omega), H2.out.cellB 0 rfl 2 (by omega), (H2.out.cell1 1 rfl (show 0 < q by omega)).trans rfl⟩
                  have HS2 := Lib.hid hS2
                  clear hS2
                  refine tail_step ?_
                  go_wp2
                  refine holds HS2.out ?_
                  refine tail_step ?_
                  go_wp2
                  refine holds HS2.out ?_
                  refine tail_last ?_
                  refine at_lay (F := fun W' => wpList _ _ _ _ _ W') H2.out ?_
                  intro W9 hW9
                  clear d1 d2 o0 f2 b2 HS2 H2 HQ
                  have HQ := Lib.hid hW9
                  clear hW9
                  have e0 := HQ.out.cellB 4 rfl 0 (by omega)
                  have e1 := HQ.out.cellB 4 rfl 1 (by omega)
                  have e2 := HQ.out.cellB 4 rfl 2 (by omega)
                  have e3 := HQ.out.cellB 4 rfl 3 (by omega)
                  simp only [List.set_cons_succ, List.set_cons_zero, ofL_0, ofL_1, ofL_2, ofL_3] at e0 e1 e2 e3
                  have r0 := HQ.out.cellB 5 rfl 0 (by omega)
                  have r1 := HQ.out.cellB 5 rfl 1 (by omega)
                  have r2 := HQ.out.cellB 5 rfl 2 (by omega)
                  have r3 := HQ.out.cellB 5 rfl 3 (by omega)
                  simp only [ofL_0, ofL_1, ofL_2, ofL_3] at r0 r1 r2 r3
                  have f1 := HQ.out.frz 4 rfl (by omega) 1
                  have g0 := HQ.out.frz 5 rfl (by omega) 0
                  have g1 := HQ.out.frz 5 rfl (by omega) 1
                  have g2 := HQ.out.frz 5 rfl (by omega) 2
                  have g3 := HQ.out.frz 5 rfl (by omega) 3
                  have hne := HQ.out.ne_ 4 5 rfl rfl (by omega)
                  have hF := ((((HQ.out.fld 4 1 (.bool false) rfl (by omega) (by simp)).fld 5 0 (.slice AC j cC) rfl (by omega) (by simp)).fld 5 1 (.bool false) rfl (by omega) (by simp)).fld 5 2 (.int .u32 ((quE q M j).works : Nat)) rfl (by omega) (by simp)).fld 5 3 (.int .i64 (seenSum es.toList seen)) rfl (by omega) (by simp)
                  have HF := Lib.hid (hF.perm (L' := [lstC AC j cC (quC q M), blkQ br [.slice AC j cC, .bool false, .int .u32 ((quE q M j).works : Nat), .int .i64 (seenSum es.toList seen)]]) [3, 5] (by decide) rfl)
                  clear hF
                  go_wp2
                  have HF2 := HF.out
                  clear e0 e1 e2 e3 r0 r1 r2 r3 f1 g0 g1 g2 g3 HQ
                  generalize ((((W9.setCell ⟨be, 1, none⟩ (.bool false)).setCell ⟨br, 0, none⟩ (.slice AC j cC)).setCell ⟨br, 1, none⟩ (.bool false)).setCell ⟨br, 2, none⟩ (.int .u32 ((quE q M j).works : Nat))).setCell ⟨br, 3, none⟩ (.int .i64 (seenSum es.toList seen)) = W8 at HF2 ⊢
                  have r0 : W8.cell? ⟨br, 0, none⟩ = some (.slice AC j cC) := HF2.cellB 1 rfl 0 (by omega)
                  have r1 : W8.cell? ⟨br, 1, none⟩ = some (.bool false) := HF2.cellB 1 rfl 1 (by omega)
                  have r2 : W8.cell? ⟨br, 2, none⟩ = some (.int .u32 ((quE q M j).works : Nat)) := HF2.cellB 1 rfl 2 (by omega)
                  have r3 : W8.cell? ⟨br, 3, none⟩ = some (.int .i64 (seenSum es.toList seen)) := HF2.cellB 1 rfl 3 (by omega)
                  exact bodyPost_ret (v := .tuple #[.agg #[.slice AC j cC, .bool false, .int .u32 ((quE q M j).works : Nat), .int .i64 (seenSum es.toList seen)], .int .i64 0]) (by simp [results, Try.results8, go_sem, r0, r1, r2, r3]) rfl ⟨_, rfl, AC, cC, seenSum es.toList seen, by rw [HD.out], by rw [HT.out]; exact HB0.out, HF2.perm [0] (by decide) rfl⟩
            · obtain ⟨a, ha, hkey, hval⟩ := way_val HP.out e (mem_left he).1
              have hv : e.val = .int .i64 (valOf e.val) := by rw [hval]; rfl
              have hN := hL2 _ _ (by omega) HQ.out
              have HI2 := Lib.hid hI2
              have HN := Lib.hid hN
              have hin := seenSum_in (B := 100) seen es.toList fun x hx => by
                obtain ⟨a, _, _, hv⟩ := way_val HP.out x hx
                have h1 := (quE_J hn1 hn M j).way a
                have h2 := (quE_B (n := q) M j).2 a
                rw [hv]
                show 0 ≤ (quE q M j).way a ∧ (quE q M j).way a ≤ (100 : Nat)
                omega
              have hlen : es.toList.length ≤ 60 := by have := HP.out.size; simp; omega
              have hvb : 0 ≤ valOf e.val ∧ valOf e.val ≤ 100 := by
                have h1 := (quE_J hn1 hn M j).way a
                have h2 := (quE_B (n := q) M j).2 a
                rw [hval]
                show 0 ≤ (quE q M j).way a ∧ (quE q M j).way a ≤ 100
                omega
              have HPU := Lib.hid (seenSum_push seen e (mem_left he).2 es.toList ((stamped_iff es c).1 HP.out.stamped).2.1 (mem_left he).1)
              have HSH := Lib.hid (left_shrinks es seen e he)
              have HEK := Lib.hid hkey
              rw [hv] at hnx hent
              rw [hkey] at hnx hent
              obtain ⟨vv, hvv⟩ : ∃ vv, valOf e.val = vv := ⟨_, rfl⟩
              have hpu := HPU.out
              rw [hvv] at hnx hent hvb hpu
              have HPU := Lib.hid hpu
              have hb1 : 0 ≤ seenSum es.toList seen := hin.1
              have hb2 : seenSum es.toList seen ≤ 6000 := by have := hin.2; omega
              clear hpu hvv hv hval hkey hin hlen hI2 hN hL2 he ha
              have d3 := HN.out.cellB 4 rfl 3 (by omega)
              simp only [ofL_3] at d3
              have f3 := HN.out.frz 4 rfl (by omega) 3
              obtain ⟨ss, hss⟩ : ∃ ss, seenSum es.toList seen = ss := ⟨_, rfl⟩
              rw [hss] at hb1 hb2 d3
              have HSS := Lib.hid hss
              clear hss
              go_wp2
              go_roundg (leftOf es (seen.push e.born)).size
              case measure => rw [HK.out]; exact HSH.out
              case rel => exact ⟨seen.push e.born, rfl, HI2.out.setCell _ _, by rw [HPU.out, HSS.out]; exact HN.out.fld 4 3 (.int .i64 (ss + vv)) rfl (by omega) (by simp)⟩
end Go.Proofs.Ytfcgjmekeonemaa
