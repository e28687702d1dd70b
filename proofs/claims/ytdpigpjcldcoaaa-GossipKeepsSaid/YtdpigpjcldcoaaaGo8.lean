/- The walk of gossip.Play. -/
import Derived.Test.YtdpigpjcldcoaaaGo5
import Derived.Test.YtdpigpjcldcoaaaGo7
import Derived.Test.YtdpigpjcldcoaaaGoPl
import Derived.Test.YtdpigpjcldcoaaaNew
import Derived.Test.YtdpigpjcldcoaaaCloneI
import Derived.Deep.CutRange
import Derived.Deep.CutBlock
set_option linter.unusedVariables false
set_option linter.unusedSimpArgs false
namespace Go.Proofs.Ytdpigpjcldcoaaa
open Go.RowKit

theorem infoErrnoG : (Try.prog.info? 28).map (fun i => (i.zero, i.size, i.bytes)) = some (some (.int .i64 0), 1, 8) := by kernel_rfl
theorem infoSlG : (Try.prog.info? 33).map (fun i => (i.zero, i.size, i.bytes)) = some (some (.slice none 0 0), 1, 24) := by kernel_rfl
theorem GB.all (n : Nat) (M : Mv) (j : Nat) (hj : j ≤ 60) : GB n (goE n M j) := by
  obtain ⟨W, h⟩ := GI.all n M j
  exact ⟨fun i hi => Nat.le_trans (h.short hi) (by omega), fun i hi => Nat.le_trans (h.wr i hi) (by omega)⟩
def newsG (n : Nat) (i : Nat) : NSpec := ([.val (.int .i64 n), .new (fun g => .slice (some ⟨g, 0, none⟩) n n) (.cells (madeCells #[.slice none 0 0] n) 33), .val (.int .i64 n), .new (fun g => .slice (some ⟨g, 0, none⟩) n n) (.cells (madeCells #[.int .i64 0] n) 3)] : List NSpec).getD i (.val undef)
abbrev lstC (A : Option Addr) (m cap : Nat) (fc : Nat → Int) : LRow := lst A 28 m cap (fun i => .int .i64 (fc i))
abbrev blkO (b : Nat) (x y : Value) : LRow := blk b 27 2 (ofL [x, y])
theorem go_bad (n : Int) (m cap : Nat) (A : Option Addr) (w : World) (hm : m ≤ maxLen) (hb : ¬ (1 ≤ n ∧ n ≤ 6 ∧ (m : Int) ≤ 60)) :
    Calls Try.prog 8 #[.int .i64 n, .slice A m cap] w fun e w' => e = .returned (.tuple #[.agg #[.slice none 0 0, .slice none 0 0], .int .i64 1]) ∧ Below w.heap.size w w' := by
  unfold maxLen at hm
  have h' : n < 1 ∨ 6 < n ∨ 60 < (m : Int) := by omega
  clear hb
  go_enter Try.func8, Try.ntmps8
  go_wp2
  all_goals first
    | (exfalso; omega)
    | ((try simp only [Exit.inBlock, Exit.then]); refine bodyPost_ret (v := .tuple #[.agg #[.slice none 0 0, .slice none 0 0], .int .i64 1]) (by simp [results, Try.results8, go_sem]) rfl ?_; exact ⟨rfl, (((Below.refl _ _).alloc (Nat.le_refl _) _).setCell (by simp) _).setCell (by simp) _⟩)
    | ((try simp only [Exit.inBlock, Exit.then]); refine bodyPost_ret (v := .tuple #[.agg #[.slice none 0 0, .slice none 0 0], .int .i64 1]) (by simp [results, Try.results8, go_sem]) rfl ?_; exact ⟨rfl, (Below.refl _ _).alloc (Nat.le_refl _) _⟩)
abbrev mvG2 (q : Nat) (k f t v : Int) : LRow := mvG q k f t v
/-- What the loads of 'out.Codes = append(out.Codes, p.do(m))' read. -/
def MvS (b q : Nat) (C : Value) (k f t v : Int) (w : World) : Prop :=
  w.cell? ⟨b, 0, none⟩ = some C ∧ w.cell? ⟨q, 0, none⟩ = some (.int .i64 k) ∧ w.cell? ⟨q, 1, none⟩ = some (.int .i64 f) ∧ w.cell? ⟨q, 2, none⟩ = some (.int .i64 t) ∧ w.cell? ⟨q, 3, none⟩ = some (.int .i64 v)
theorem MvS.of {w0 w : World} {pl gk gw n : Nat} {s : GS} {VR R : List LRow} {r : LRow} {b q : Nat} {C C2 : Value} {k f t v : Int} (h : LayG pl gk gw n (mvG q k f t v :: r :: blkO b C C2 :: R) w0 s VR w) : MvS b q C k f t v w := by
  obtain ⟨K, h1, -⟩ := h
  exact ⟨h1.cellB 5 rfl 0 (by omega), h1.cellB 3 rfl 0 (by omega), h1.cellB 3 rfl 1 (by omega), h1.cellB 3 rfl 2 (by omega), h1.cellB 3 rfl 3 (by omega)⟩
theorem LayG.alloc {w0 w : World} {pl gk gw n : Nat} {s : GS} {VR R : List LRow} (h : LayG pl gk gw n R w0 s VR w) (o : Obj) : LayG pl gk gw n R w0 s VR (w.alloc o) := by
  obtain ⟨K, h1, h2⟩ := h
  exact ⟨K, h1.alloc o, h2⟩
theorem LayG.sim {w0 w w' : World} {pl gk gw n : Nat} {s : GS} {VR R : List LRow} (h : LayG pl gk gw n R w0 s VR w) (e : Sim w w') : LayG pl gk gw n R w0 s VR w' := by
  obtain ⟨K, h1, h2⟩ := h
  exact ⟨K, h1.sim e, h2⟩
theorem LayG.bel {w0 w : World} {pl gk gw n : Nat} {s : GS} {VR R : List LRow} (h : LayG pl gk gw n R w0 s VR w) : Below w0.heap.size w0 w := h.elim fun _ h => h.1.bel
set_option maxRecDepth 100000 in
set_option maxHeartbeats 1600000 in
theorem go_good (n m cap B : Nat) (A : Option Addr) (M : Mv) (w : World) (hn1 : 1 ≤ n) (hn : n ≤ 6) (hm : m ≤ 60) (hB : B ≤ w.heap.size) (hr : Rd w B A (m * 4) (mvF M)) :
    Calls Try.prog 8 #[.int .i64 n, .slice A m cap] w (Gives fun v w' => ∃ AC cC AK cK KV VR, v = .tuple #[.agg #[.slice AC m cC, .slice AK n cK], .int .i64 0] ∧
      Lay w w' (lstC AC m cC (goC n M) :: lst AK 33 n cK KV :: VR) ∧ ∀ i, i < n → ∃ ks, Srt n ((goE n M m).known i) ks ∧ KnI VR n (KV i) ks) := by
  have HR := Lib.hid hr; clear hr
  obtain ⟨iE, hiE, hzE0, hzE1, hzE2⟩ := info_parts infoErrnoG
  obtain ⟨iI, hiI, hzI0, hzI1, hzI2⟩ := info_parts infoIntG
  obtain ⟨iS, hiS, hzS0, hzS1, hzS2⟩ := info_parts infoSlG
  obtain ⟨iO, hiO, hz0, hz1, hz2⟩ := info_parts infoKn
  go_enter Try.func8, Try.ntmps8
  go_upto_region 3 with (fail)
  refine at_world (F := fun W' => Code.wp _ _ _ _ W') (fun W => Lay w W [blkO w.heap.size (.slice none 0 0) (.slice none 0 0), rowK none 0 0 (fun _ => undef)]) ((((Lay.nil w).lnil _ _ _).newB [.slice none 0 0, .slice none 0 0] 27 2 rfl _ rfl)) ?_
  intro W hW
  have HW := Lib.hid hW
  clear hW
  refine wp_news [0, 1, 2, 3] [27, 28, 29, 30] [4, 5, 6] 4 (newsG n) (by kernel_rfl) (by kernel_rfl) rfl (by decide) rfl (by kernel_rfl) ?ext ?fin
  case ext =>
    intro i hi o ho a w1 hb hold hf
    simp only [List.mem_cons, List.not_mem_nil, or_false] at hi
    rcases hi with rfl | rfl | rfl | rfl
    all_goals cases ho
    · exact nspec_move _ rfl (eval_tmp (hold 0 (by decide)))
    · exact nspec_mk _ _ rfl _ iS _ _ Try.underlying25 hiS hzS0 hzS1 hzS2 (eval_tmp (hf 0 27 _ rfl rfl rfl)) (by omega) (by omega)
    · exact nspec_move _ rfl (eval_tmp (hold 0 (by decide)))
    · exact nspec_mk _ _ rfl _ iI _ _ Try.underlying36 hiI hzI0 hzI1 hzI2 (eval_tmp (hf 2 29 _ rfl rfl rfl)) (by omega) (by omega)
  case fin =>
    intro y γ w2 hb hy hap
    have y0 : y 0 = .int .i64 n := hy 0 (by decide)
    have y2 : y 2 = .int .i64 n := hy 2 (by decide)
    obtain ⟨y1, l1, o1⟩ := hy 1 (by decide)
    obtain ⟨y3, l3, o3⟩ := hy 3 (by decide)
    have n13 := hap 1 (by decide) 3 (by decide) (by decide) rfl rfl
    simp only [List.drop_succ_cons, List.drop_zero, List.zip_cons_cons, List.zip_nil_right, List.foldl_cons, List.foldl_nil, y0, y1, y2, y3]
    simp only [Act.put, List.setIfInBounds_toArray, List.set_cons_zero, List.set_cons_succ]
    generalize γ 1 = gk at l1 o1 n13 ⊢
    generalize γ 3 = gw at l3 o3 n13 ⊢
    have HL : Hid (Lay w w2 ([arr gk 33 n (fun _ => .slice none 0 0), arr gw 3 n (fun _ => .int .i64 0)] ++ [blkO w.heap.size (.slice none 0 0) (.slice none 0 0), rowK none 0 0 (fun _ => undef)])) := by
      refine HW.out.rows hb _ (fun r hr => ?_) (by simp [ablock]; omega)
      simp only [List.mem_cons, List.not_mem_nil, or_false] at hr
      rcases hr with rfl | rfl
      · exact ⟨HW.out.arr_at (z := .slice none 0 0) (n := n) rfl l1 o1 (by unfold maxLen; omega) (fun _ _ => rfl), gk, rfl, l1⟩
      · exact ⟨HW.out.arr_at (z := .int .i64 0) (n := n) rfl l3 o3 (by unfold maxLen; omega) (fun _ _ => rfl), gw, rfl, l3⟩
    clear o1 o3 n13 l1 l3 y0 y1 y2 y3 hap hy hb HW
    go_wp2
    have HL0 : Hid (∃ pl be, w2.heap.size = pl ∧ w2.heap.size + 1 = be ∧ LayG pl gk gw n [lstC none 0 0 (goC n M), blkO be (.slice none 0 0) (.slice none 0 0), blkO w.heap.size (.slice none 0 0) (.slice none 0 0)] w (goE n M 0) [rowK none 0 0 (fun _ => undef)] ((w2.alloc (.cells #[.slice (some ⟨gk, 0, none⟩) n n, .slice (some ⟨gw, 0, none⟩) n n] 47)).alloc (.cells #[.slice none 0 0, .slice none 0 0] 27))) :=
      Lib.hid ⟨_, _, rfl, rfl, fun _ => .slice none 0 0, (((HL.out.newB [.slice (some ⟨gk, 0, none⟩) n n, .slice (some ⟨gw, 0, none⟩) n n] 47 2 rfl _ rfl).newB [.slice none 0 0, .slice none 0 0] 27 2 rfl _ (by simp)).lnil 28 1 (fun i => .int .i64 (goC n M i))).perm [2, 3, 4, 0, 1, 5, 6] (by decide) rfl, fun i hi => ⟨0, none, 0, _, rfl, rfl, fun i hi => absurd hi (by show ¬ i < 0; omega)⟩⟩
    obtain ⟨pl, be, hpl, hbe, hL⟩ := HL0.out
    rw [hbe, hpl]
    have HL1 := Lib.hid hL
    clear hL hpl hbe HL0 HL
    go_loopw [35] (fun i wr => ∃ j : Nat, j ≤ m ∧ i = .int .i64 (j : Nat) ∧ ∃ AC cC VR, Hid (LayG pl gk gw n [lstC AC j cC (goC n M), blkO be (.slice AC j cC) (.slice none 0 0), blkO w.heap.size (.slice none 0 0) (.slice none 0 0)] w (goE n M j) VR wr)) (fun i _ => m - (intOf i).toNat)
    case atStart => exact ⟨0, by omega, rfl, none, 0, _, HL1⟩
    case round =>
      clear HL1
      obtain ⟨j, hj, rfl, AC, cC, VR, HQ⟩ := hrel
      by_cases hlt : j < m
      · obtain ⟨ad, rfl, hbl, m0, m1, m2, m3⟩ := (HR.out.below (HQ.out.bel.mono hB)).rec4 hlt
        clear hbl
        go_wp2
        clear m0 m1 m2 m3
        have HQ1 : Hid (LayG pl gk gw n (mvG wr.heap.size (M.k j) (M.f j) (M.t j) (M.v j) :: [lstC AC j cC (goC n M), blkO be (.slice AC j cC) (.slice none 0 0), blkO w.heap.size (.slice none 0 0) (.slice none 0 0)]) w (goE n M j) VR (wr.alloc (.cells #[.int .i64 (M.k j), .int .i64 (M.f j), .int .i64 (M.t j), .int .i64 (M.v j)] 41))) := Lib.hid (by
          obtain ⟨K, h1, h2⟩ := HQ.out
          exact LayG.put ⟨K, h1.newB [.int .i64 (M.k j), .int .i64 (M.f j), .int .i64 (M.t j), .int .i64 (M.v j)] 41 4 rfl _ rfl, h2⟩)
        refine at_world (F := fun W' => Code.wp _ _ _ _ W') (fun W => LayG pl gk gw n (mvG wr.heap.size (M.k j) (M.f j) (M.t j) (M.v j) :: [lstC AC j cC (goC n M), blkO be (.slice AC j cC) (.slice none 0 0), blkO w.heap.size (.slice none 0 0) (.slice none 0 0)]) w (goE n M j) VR W) HQ1.out ?_
        intro W hW
        have HW := Lib.hid hW
        clear hW HQ1 HQ
        generalize wr.heap.size = q at HW ⊢
        have hs : MvS be q (.slice AC j cC) (M.k j) (M.f j) (M.t j) (M.v j) W := MvS.of HW.out
        refine wp_held_mask (MvS be q (.slice AC j cC) (M.k j) (M.f j) (M.t j) (M.v j)) [true, true, true, true, false, false, false, false, false] ?A1 (by kernel_rfl) rfl (by kernel_rfl) (by repeat' (first | (with_reducible apply tame_then) | (with_reducible apply tame_block) | (with_reducible apply tame_scope) | exact tame_gives | exact tame_body (fun _ _ h => ⟨_, h.1⟩))) hs ?head ?tail
        case head =>
          intro W5 ⟨s0, s1, s2, s3, s4⟩
          simp only [pick]
          go_wp2
          exact taken
        case tail =>
          clear hs
          simp only [pick, List.map_cons, List.map_nil, Bool.not_true, Bool.not_false]
          refine tail_step ?_
          go_wp2_with fail
          refine (do_any pl gk gw n _ VR w _ (goE n M j) (M.k j) (M.f j) (M.t j) (M.v j) hn (GB.all n M j (by omega)) (by exact HW.out.sim ⟨rfl, rfl, rfl, rfl⟩)).mono ?_
          rintro e w3 ⟨rfl, VR3, -, h3⟩
          have H3 : Hid (LayG pl gk gw n (mvG q (M.k j) (M.f j) (M.t j) (M.v j) :: [lstC AC j cC (goC n M), blkO be (.slice AC j cC) (.slice none 0 0), blkO w.heap.size (.slice none 0 0) (.slice none 0 0)]) w (goE n M (j + 1)) VR3 w3) := h3
          clear h3 HW
          go_wp2
          refine holds (MvS.of H3.out) ?_
          refine tail_step ?_
          go_wp2
          refine holds (MvS.of (H3.out.alloc _)) ?_
          refine tail_step ?_
          obtain ⟨K3, k1, k2⟩ := H3.out
          refine wpList_ap1 rfl (.tmp 40) (.tmp 44) _ rfl 28 iE _ 8 Try.underlying24 hiE hzE0 hzE1 hzE2 rfl w.heap.size rfl ((k1.alloc _).own 4 _ rfl) rfl (cell_new _ _ _ _ _ rfl (one_cell _)) (fun _ _ => rfl) (fun i => .int .i64 (goC n M i)) (fun _ _ => rfl) (one_at rfl) (j + 1) rfl (by unfold maxLen; omega) (by omega) (by have := k1.size; simp; omega) ?_
          intro A2 cap2 w4 ho hg ha
          have H4 : Hid (Lay w w4 (rowsG pl gk gw n K3 (goE n M (j + 1)).wrote (mvG q (M.k j) (M.f j) (M.t j) (M.v j) :: [lstC A2 (j + 1) cap2 (goC n M), blkO be (.slice AC j cC) (.slice none 0 0), blkO w.heap.size (.slice none 0 0) (.slice none 0 0)]) VR3)) := Lib.hid ((k1.alloc _).app 4 rfl ho hg ha)
          have HK2 := Lib.hid k2
          clear ho hg ha H3 k1 k2
          have HS4 : Hid (MvS be q (.slice AC j cC) (M.k j) (M.f j) (M.t j) (M.v j) w4) := Lib.hid (MvS.of ⟨K3, H4.out, HK2.out⟩)
          have d0 := HS4.out.1
          have e0 := H4.out.frz 5 rfl (by omega) 0
          go_wp2
          refine holds HS4.out ?_
          refine tail_step ?_
          go_wp2
          refine holds HS4.out ?_
          refine tail_last ?_
          go_wp2
          go_roundw
          case rel => exact ⟨j + 1, by omega, by go_num, A2, cap2, VR3, Lib.hid ⟨K3, (H4.out.fld 5 0 (.slice A2 (j + 1) cap2) rfl (by omega) (by simp)).del 3, HK2.out⟩⟩
          case measure => simp [intOf]; omega
      · obtain rfl : j = m := by omega
        obtain ⟨K, q1, q2⟩ := HQ.out
        have HKI := Lib.hid q2
        have HL0 : Hid (Lay w wr (rowsG pl gk gw n K (goE n M j).wrote [lst none 33 0 0 (fun _ => undef), lstC AC j cC (goC n M), blkO be (.slice AC j cC) (.slice none 0 0), blkO w.heap.size (.slice none 0 0) (.slice none 0 0)] VR)) := Lib.hid ((q1.lnil 33 1 (fun _ => undef)).into (P := _ :: _ :: _ :: []))
        have hlen : ∀ i, i < n → ((goE n M j).known i).length ≤ 100 := (GB.all n M j (by omega)).len
        have c0 := HL0.out.cellB 0 rfl 0 (by omega)
        simp only [ofL_0] at c0
        have HLN := Lib.hid hlen
        clear q1 q2 hlen HQ HR
        generalize (goE n M j).wrote = wr0 at HL0
        generalize hkn : (goE n M j).known = kn at HKI HLN
        have HKN := Lib.hid hkn
        clear hkn
        go_wp2
        clear c0
        generalize w.heap.size = b0 at HL0
        obtain ⟨w6, hw6⟩ : ∃ w6, w6 = wr := ⟨_, rfl⟩
        rw [← hw6] at HL0 ⊢
        clear hw6
        go_loopw [53] (fun i wr => ∃ q : Nat, q ≤ n ∧ i = .int .i64 (q : Nat) ∧ ∃ AK cK KV VR', Hid (Lay w wr (rowsG pl gk gw n K wr0 [lst AK 33 q cK KV, lstC AC j cC (goC n M), blkO be (.slice AC j cC) (.slice AK q cK), blkO b0 (.slice none 0 0) (.slice none 0 0)] VR')) ∧ Hid (RowsIn VR VR') ∧ Hid (∀ i, i < q → ∃ ks, Srt n (kn i) ks ∧ KnI VR' n (KV i) ks)) (fun i _ => n - (intOf i).toNat)
        case atStart => exact ⟨0, by omega, rfl, none, 0, _, VR, HL0, Lib.hid (RowsIn.refl _), Lib.hid fun i hi => absurd hi (by omega)⟩
        case round =>
          clear HL0
          obtain ⟨q, hq, rfl, AK, cK, KV, VR', HL, HIN, HKV⟩ := hrel
          by_cases hqn : q < n
          · have cq := HL.out.cell1 1 rfl (j := q) hqn
            obtain ⟨k1, A1, c1, F1, hv1, hv2, hv3⟩ := (HKI.out q hqn).sub HIN.out
            have hll := HLN.out q hqn
            rw [hv2] at cq
            obtain ⟨kl, hkl⟩ : ∃ kl, kl = kn q := ⟨_, rfl⟩
            obtain ⟨l, hl⟩ : ∃ l, l = kl.length := ⟨_, rfl⟩
            rw [← hkl] at cq hv1 hv3 hll
            rw [← hl] at cq hv1 hll
            have HKL := Lib.hid hkl
            have HLL := Lib.hid hl
            have HV1 := Lib.hid hv1
            have HV3 := Lib.hid hv3
            clear hv1 hv2 hv3 hkl hl
            have HO0 := Lib.hid (HL.out.lnil 38 2 (fun _ => undef))
            obtain ⟨w7, hw7⟩ : ∃ w7, w7 = wr := ⟨_, rfl⟩
            rw [← hw7] at HL HO0 cq ⊢
            clear hw7
            go_wp2
            clear cq HL
            go_loopw [12, 59] (fun o i wr => ∃ (t : Nat) (Ao : Option Addr) (co : Nat) (Fo : Nat → Value) (VR2 : List LRow), t ≤ l ∧ i = .int .i64 (t : Nat) ∧ o = .slice Ao t co ∧ Hid (Lay w wr (rowK Ao t co Fo :: rowsG pl gk gw n K wr0 [lst AK 33 q cK KV, lstC AC j cC (goC n M), blkO be (.slice AC j cC) (.slice AK q cK), blkO b0 (.slice none 0 0) (.slice none 0 0)] VR2)) ∧ Hid (RowsIn VR' VR2) ∧ Hid (KnF VR2 n (kl.take t) Fo)) (fun _ i _ => l - (intOf i).toNat)
            case atStart => exact ⟨0, none, 0, _, VR', by omega, rfl, rfl, HO0, Lib.hid (RowsIn.refl _), Lib.hid fun i hi => absurd hi (by simp)⟩
            case round =>
              clear HO0
              obtain ⟨t, Ao, co, Fo, VR2, ht, rfl, rfl, HL, HIN2, HFo⟩ := hrel
              by_cases htl : t < l
              · obtain ⟨k2, hk2⟩ := HIN2.out k1 _ HV1.out
                obtain ⟨adA, gq, cq, rfl, hbA, e0, e1, hvk⟩ := (HV3.out.sub HIN2.out).at_ (w := wr) (B := wr.heap.size) (A := A1) (by rw [← HLL.out]; exact (HL.out.one (_ :: _ :: _ :: _ :: _ :: _ :: _ :: _ :: []) hk2).rd) (i := t) (by rw [← HLL.out]; exact htl)
                have HVK := Lib.hid hvk
                have HL5 := Lib.hid (HL.out.newB [.int .i64 (knAt kl t).val, .slice (some ⟨gq, 0, none⟩) n cq] 38 2 rfl _ rfl)
                clear hvk hk2
                go_wp2
                clear e0 e1 hbA HL
                refine at_lay (F := fun W' => Code.wp _ _ _ _ W') HL5.out ?_
                intro W hW
                have HW := Lib.hid hW
                clear hW HL5
                generalize wr.heap.size = bk at HW ⊢
                have s0 := HW.out.cellB 0 rfl 0 (by omega)
                have s1 := HW.out.cellB 0 rfl 1 (by omega)
                simp only [ofL_0, ofL_1] at s0 s1
                have HRK := Lib.hid (HVK.out.rdG (_ :: _ :: _ :: _ :: _ :: _ :: _ :: _ :: _ :: []) HW.out)
                refine wp_held_mask (fun W => W.cell? ⟨bk, 0, none⟩ = some (.int .i64 (knAt kl t).val) ∧ W.cell? ⟨bk, 1, none⟩ = some (.slice (some ⟨gq, 0, none⟩) n cq)) [true, true, true, true, true, false, false, false, false, false] ?A2 (by kernel_rfl) rfl (by kernel_rfl) (by repeat' (first | (with_reducible apply tame_then) | (with_reducible apply tame_block) | (with_reducible apply tame_scope) | exact tame_gives | exact tame_body (fun _ _ h => ⟨_, h.1⟩))) ⟨s0, s1⟩ ?head2 ?tail2
                case head2 =>
                  intro W5 ⟨s0, s1⟩
                  simp only [pick]
                  go_wp2
                  exact taken
                case tail2 =>
                  simp only [pick, List.map_cons, List.map_nil, Bool.not_true, Bool.not_false]
                  refine tail_step ?_
                  go_wp2_with fail
                  refine (cloneI_lay (some ⟨gq, 0, none⟩) n cq W.heap.size (fun t' => ((knAt kl t).vec t' : Nat)) W.drew hn1 (by omega) (Nat.le_refl _) (HRK.out.drewN 1)).mono ?_
                  rintro e w8 ⟨v8, rfl, g8, c8, rfl, h8⟩
                  have HJ : Hid (Lay w w8 (vrow g8 c8 n (knAt kl t).vec :: blkK bk (.int .i64 (knAt kl t).val) (.slice (some ⟨gq, 0, none⟩) n cq) :: rowK Ao t co Fo :: rowsG pl gk gw n K wr0 [lst AK 33 q cK KV, lstC AC j cC (goC n M), blkO be (.slice AC j cC) (.slice AK q cK), blkO b0 (.slice none 0 0) (.slice none 0 0)] VR2)) := Lib.hid (HW.out.drew.join h8)
                  clear h8 HRK HW
                  have s0 := HJ.out.cellB 1 rfl 0 (by omega)
                  have s1 := HJ.out.cellB 1 rfl 1 (by omega)
                  simp only [ofL_0, ofL_1] at s0 s1
                  go_wp2
                  refine holds ⟨s0, s1⟩ ?_
                  refine tail_step ?_
                  go_wp2
                  refine holds ⟨s0, s1⟩ ?_
                  refine tail_step ?_
                  go_wp2
                  clear s0 s1
                  have HJ2 := Lib.hid (HJ.out.alloc (.cells #[.int .i64 (knAt kl t).val, .slice (some ⟨g8, 0, none⟩) n c8] 38))
                  have HS2 : Hid ((w8.alloc (.cells #[.int .i64 (knAt kl t).val, .slice (some ⟨g8, 0, none⟩) n c8] 38)).cell? ⟨bk, 0, none⟩ = some (.int .i64 (knAt kl t).val) ∧ (w8.alloc (.cells #[.int .i64 (knAt kl t).val, .slice (some ⟨g8, 0, none⟩) n c8] 38)).cell? ⟨bk, 1, none⟩ = some (.slice (some ⟨gq, 0, none⟩) n cq)) := Lib.hid ⟨HJ2.out.cellB 1 rfl 0 (by omega), HJ2.out.cellB 1 rfl 1 (by omega)⟩
                  refine holds HS2.out ?_
                  refine tail_step ?_
                  have HK1 : Hid (KnF (vrow g8 c8 n (knAt kl t).vec :: VR2) n [knAt kl t] (ofL [.int .i64 (knAt kl t).val, .slice (some ⟨g8, 0, none⟩) n c8])) := Lib.hid (fun i hi => by
                    obtain rfl : i = 0 := by simpa using hi
                    exact ⟨rfl, InV.zero _ _ _ _ _⟩)
                  have HO1 := Lib.hid HK1.out.one
                  have HK2 : Hid (KnF (vrow g8 c8 n (knAt kl t).vec :: VR2) n (kl.take (t + 1)) (catF (t * 2) Fo (ofL [.int .i64 (knAt kl t).val, .slice (some ⟨g8, 0, none⟩) n c8]))) := Lib.hid (by
                    have h1 := (HFo.out.sub (RowsIn.cons (vrow g8 c8 n (knAt kl t).vec) VR2)).cat HK1.out
                    have h2 : kl.take (t + 1) = kl.take t ++ [knAt kl t] := by
                      have hlt : t < kl.length := by rw [← HLL.out]; exact htl
                      rw [List.take_add_one, List.getElem?_eq_getElem hlt]
                      simp [knAt, List.getD_eq_getElem?_getD, List.getElem?_eq_getElem hlt]
                    have h3 : (kl.take t).length = t := by rw [List.length_take, ← HLL.out]; omega
                    rw [h2]; rw [h3] at h1; exact h1)
                  have hszw := Lib.hid HJ2.out.size
                  refine wpList_ap rfl (.tmp 63) (.tmp 70) _ rfl 38 iO _ 2 32 Try.underlying33 hiO hz0 hz1 hz2 rfl (by omega) w.heap.size (n := t) rfl (HJ2.out.own 2 _ rfl) (B := w8.heap.size + 1) (m := 1) (g := ofL [.int .i64 (knAt kl t).val, .slice (some ⟨g8, 0, none⟩) n c8]) rfl ?hr HO1.out (catF (t * 2) Fo (ofL [.int .i64 (knAt kl t).val, .slice (some ⟨g8, 0, none⟩) n c8])) (fun j hj => by unfold catF; rw [if_pos hj]) (fun j hj => by unfold catF; rw [if_neg (by omega), Nat.add_sub_cancel_left]) (t + 1) rfl (by unfold maxLen; omega) (by omega) hszw.out ?_
                  case hr =>
                    refine cell_new w8 _ _ _ w8.heap.size rfl (fun j hj => ?_)
                    rcases (by omega : j = 0 ∨ j = 1) with rfl | rfl
                    · rfl
                    · rfl
                  intro A5 c5 w5 ho hgr ha
                  have HL6 := Lib.hid (HJ2.out.app 2 rfl ho hgr ha)
                  clear ho hgr ha HJ HJ2 HS2 hszw HO1 HK1
                  have HS6 : Hid (w5.cell? ⟨bk, 0, none⟩ = some (.int .i64 (knAt kl t).val) ∧ w5.cell? ⟨bk, 1, none⟩ = some (.slice (some ⟨gq, 0, none⟩) n cq)) := Lib.hid ⟨HL6.out.cellB 1 rfl 0 (by omega), HL6.out.cellB 1 rfl 1 (by omega)⟩
                  go_wp2
                  refine holds HS6.out ?_
                  refine tail_last ?_
                  go_wp2
                  go_roundw
                  case rel => exact ⟨t + 1, A5, c5, _, vrow g8 c8 n (knAt kl t).vec :: VR2, by omega, by go_num, rfl, Lib.hid ((HL6.out.swap.tail).into (P := _ :: _ :: _ :: _ :: _ :: _ :: _ :: _ :: [])), Lib.hid (HIN2.out.trans (RowsIn.cons _ _)), HK2⟩
                  case measure => first | (simp [intOf]; done) | (simp [intOf]; omega)
              · obtain rfl : t = l := by omega
                have HFL : Hid (KnF VR2 n kl Fo) := Lib.hid (by have := HFo.out; rwa [HLL.out, List.take_length] at this)
                clear HFo
                go_wp2_with fail
                refine (sort_any (P := _ :: _ :: _ :: _ :: _ :: _ :: _ :: []) (by omega) HLL.out (by omega) HL.out HFL.out).mono ?_
                rintro e w9 ⟨rfl, u, hu, h9⟩
                have HU := Lib.hid hu
                have H9 := Lib.hid h9
                clear hu h9 HL
                have d1 := H9.out.cellB 6 rfl 1 (by omega)
                simp only [ofL_1] at d1
                have hsz9 := H9.out.size
                have hbe := (H9.out.at_ 6 rfl).2
                go_wp2_with (first
                  | (at_builtin; refine wpList_ap1 rfl (.tmp 76) (.tmp 78) _ rfl 33 iS _ 24 Try.underlying25 hiS hzS0 hzS1 hzS2 rfl w.heap.size rfl ((H9.out.alloc _).own 4 _ rfl) rfl (cell_new _ _ _ _ _ rfl (one_cell _)) (fun _ _ => rfl) (upd KV q (.slice Ao t co)) (fun j hj => upd_ne _ _ (by omega)) (one_at (upd_same _ _ _)) (q + 1) rfl (by unfold maxLen; omega) (by omega) (by simp; omega) ?_
                     intro A6 c6 w10 ho hg ha
                     have H10 := Lib.hid ((H9.out.alloc _).app 4 rfl ho hg ha)
                     clear ho hg ha
                     have hbe2 := (H10.out.at_ 6 rfl).2
                     have z1 := H10.out.frz 6 rfl (by omega) 1
                     have z2 := H10.out.cellB 6 rfl 1 (by omega))
                  | fail)
                go_roundw
                case rel => exact ⟨q + 1, by omega, by go_num, A6, c6, upd KV q (.slice Ao t co), rowK Ao t co (permF u Fo) :: VR2, Lib.hid ((H10.out.fld 6 1 (.slice A6 (q + 1) c6) rfl (by omega) (by simp)).into (P := _ :: _ :: _ :: _ :: _ :: _ :: _ :: [])), Lib.hid (HIN.out.trans (HIN2.out.trans (RowsIn.cons _ _))), Lib.hid (fun i hi => by
                    rcases Nat.lt_succ_iff_lt_or_eq.1 hi with h1 | rfl
                    · obtain ⟨ks, k1, k2⟩ := HKV.out i h1
                      rw [upd_ne _ _ (by omega)]
                      exact ⟨ks, k1, k2.sub (HIN2.out.trans (RowsIn.cons _ _))⟩
                    · rw [upd_same]
                      have hu := HU.out
                      have hll := HLL.out
                      subst hll
                      refine ⟨srtOf kl u, ⟨u, by rw [← HKL.out]; exact hu, by rw [← HKL.out]⟩, 0, Ao, co, permF u Fo, by rw [srtOf_len]; rfl, by rw [srtOf_len], (knF_perm HFL.out hu.lt).sub (RowsIn.cons _ _)⟩)⟩
                case measure => first | (simp [intOf]; done) | (simp [intOf]; omega)
          · obtain rfl : q = n := by omega
            have c0 := HL.out.cellB 5 rfl 0 (by omega)
            have c1 := HL.out.cellB 5 rfl 1 (by omega)
            simp only [ofL_0, ofL_1] at c0 c1
            have hb5 := (HL.out.at_ 5 rfl).2
            have e0 := HL.out.cellB 6 rfl 0 (by omega)
            have e1 := HL.out.cellB 6 rfl 1 (by omega)
            have z0 := HL.out.frz 6 rfl (by omega) 0
            have z1 := HL.out.frz 6 rfl (by omega) 1
            have hb6 := (HL.out.at_ 6 rfl).2
            go_wp2
            have HL2 := Lib.hid ((HL.out.fld 6 0 (.slice AC j cC) rfl (by omega) (by simp)).fld 6 1 (.slice AK q cK) rfl (by omega) (by simp))
            have f0 := HL2.out.cellB 6 rfl 0 (by omega)
            have f1 := HL2.out.cellB 6 rfl 1 (by omega)
            simp only [List.set_cons_zero, List.set_cons_succ, ofL_0, ofL_1] at f0 f1
            refine bodyPost_ret (v := .tuple #[.agg #[.slice AC j cC, .slice AK q cK], .int .i64 0]) (by simp [results, Try.results8, go_sem, f0, f1]) rfl ?_
            exact ⟨_, rfl, AC, cC, AK, cK, KV, VR', rfl, ((HL2.out.tail.tail.tail.del 2).del 2).swap, fun i hi => by rw [HKN.out]; exact HKV.out i hi⟩
end Go.Proofs.Ytdpigpjcldcoaaa
