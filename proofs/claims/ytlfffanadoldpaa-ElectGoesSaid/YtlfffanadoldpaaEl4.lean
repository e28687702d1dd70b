/- The walk of elect.Play. -/
import Derived.Test.YtlfffanadoldpaaEl3
import Derived.Test.YtlfffanadoldpaaLaL
import Derived.Deep.CutRange
import Derived.Deep.CutBlock
set_option linter.unusedVariables false
set_option linter.unusedSimpArgs false
namespace Go.Proofs.Ytlfffanadoldpaa
open Go.RowKit

theorem infoErrnoE : (Try.prog.info? 28).map (fun i => (i.zero, i.size, i.bytes)) = some (some (.int .i64 0), 1, 8) := by kernel_rfl
theorem infoIntE : (Try.prog.info? 3).map (fun i => (i.zero, i.size, i.bytes)) = some (some (.int .i64 0), 1, 8) := by kernel_rfl
abbrev blkE (b : Nat) (l : List Value) : LRow := blk b 27 5 (ofL l)
abbrev nils : List Value := [.slice none 0 0, .slice none 0 0, .slice none 0 0, .slice none 0 0, .slice none 0 0]
abbrev lstC (A : Option Addr) (m cap : Nat) (fc : Nat → Int) : LRow := lst A 28 m cap (fun i => .int .i64 (fc i))
abbrev lstI (A : Option Addr) (m cap : Nat) (F : Nat → Value) : LRow := lst A 3 m cap F
abbrev mvR (q : Nat) (k f t v : Int) : LRow := blk q 37 4 (ofL [.int .i64 k, .int .i64 f, .int .i64 t, .int .i64 v])
/-- What the loads of 'e.Codes = append(e.Codes, g.do(m))' read. -/
def MvS (b q : Nat) (C : Value) (k f t v : Int) (w : World) : Prop :=
  w.cell? ⟨b, 0, none⟩ = some C ∧ w.cell? ⟨q, 0, none⟩ = some (.int .i64 k) ∧ w.cell? ⟨q, 1, none⟩ = some (.int .i64 f) ∧ w.cell? ⟨q, 2, none⟩ = some (.int .i64 t) ∧ w.cell? ⟨q, 3, none⟩ = some (.int .i64 v)
theorem MvS.of {w0 w : World} {L : List LRow} {b q : Nat} {ty : TypeId} {sz : Nat} {l : List Value} {C : Value} {k f t v : Int} (h : Lay w0 w L) (i j : Nat) (hi : L[i]? = some (blk b ty sz (ofL (C :: l)))) (hs : 0 < sz) (hj : L[j]? = some (mvR q k f t v)) : MvS b q C k f t v w :=
  ⟨h.cellB i hi 0 hs, h.cellB j hj 0 (by omega), h.cellB j hj 1 (by omega), h.cellB j hj 2 (by omega), h.cellB j hj 3 (by omega)⟩

theorem el_start (n : Nat) {g gl : Nat} {M : Mv} {R : List LRow} {w0 w : World} (h : Lay w0 w (rowsE g gl n (ESq n) none 0 R)) : Lay w0 w (rowsE g gl n (elE n M 0) none 0 R) := by
  refine h.congr 1 (oneF ES0) rfl fun j hj => ?_
  have hj : j < n * 4 := hj
  show oneF (ESq n) j = oneF ES0 j
  unfold oneF
  split
  · rfl
  split
  · rfl
  split
  · show Value.int .i64 (if j / 4 < n then -1 else 0) = _
    rw [if_pos (by omega)]; rfl
  · rfl
/-- What the loads of 'e.Term, e.Role, e.Vote = append(e.Term, p.term), ..' read. -/
def OneS (b q : Nat) (C1 C2 C3 x0 x1 x2 : Value) (w : World) : Prop :=
  w.cell? ⟨b, 1, none⟩ = some C1 ∧ w.cell? ⟨b, 2, none⟩ = some C2 ∧ w.cell? ⟨b, 3, none⟩ = some C3 ∧ w.cell? ⟨q, 0, none⟩ = some x0 ∧ w.cell? ⟨q, 1, none⟩ = some x1 ∧ w.cell? ⟨q, 2, none⟩ = some x2
set_option maxRecDepth 100000 in
set_option maxHeartbeats 1600000 in
theorem el_good (n m cap B : Nat) (A : Option Addr) (M : Mv) (w : World) (hn1 : 1 ≤ n) (hn : n ≤ 6) (hm : m ≤ 60) (hB : B ≤ w.heap.size) (hr : Rd w B A (m * 4) (mvF M)) :
    Calls Try.prog 6 #[.int .i64 n, .slice A m cap] w (Gives fun v w' => ∃ g gl b AL cL AC cC AT cT AR cR AV cV, v = .tuple #[.agg #[.slice AC m cC, .slice AT n cT, .slice AR n cR, .slice AV n cV, .slice AL (elE n M m).led.length cL], .int .i64 0] ∧
      Lay w w' (rowsE g gl n (elE n M m) AL cL [lstC AC m cC (elC n M), lstI AT n cT (fun i => .int .i64 ((elE n M m).T i : Nat)), lstI AR n cR (fun i => .int .i64 ((elE n M m).R i)), lstI AV n cV (fun i => .int .i64 ((elE n M m).V i)), blkE b [.slice AC m cC, .slice AT n cT, .slice AR n cR, .slice AV n cV, .slice AL (elE n M m).led.length cL]])) := by
  have HR := Lib.hid hr; clear hr
  obtain ⟨iE, hiE, hzE0, hzE1, hzE2⟩ := info_parts infoErrnoE
  obtain ⟨iI, hiI, hzI0, hzI1, hzI2⟩ := info_parts infoIntE
  go_enter Try.func6, Try.ntmps6
  go_wp2_with fail
  refine (new_any n [blkE w.heap.size nils] w _ hn1 hn ((Lay.nil w).newB nils _ 5 rfl _ rfl)).mono ?_
  rintro e w1 ⟨v, rfl, g, gl, rfl, h1⟩
  have H1 := Lib.hid h1; clear h1
  go_upto_block 1 with fail
  have HL : Hid (∃ be, w1.heap.size = be ∧ Lay w (w1.alloc (.cells #[.slice none 0 0, .slice none 0 0, .slice none 0 0, .slice none 0 0, .slice none 0 0] 27)) (rowsE g gl n (ESq n) none 0 [lstC none 0 0 (elC n M), blkE be nils, blkE w.heap.size nils])) :=
    ⟨_, rfl, ((H1.out.newB nils 27 5 rfl _ rfl).lnil 28 1 (fun i => .int .i64 (elC n M i))).perm [2, 3, 4, 0, 1, 5] (by decide) rfl⟩
  obtain ⟨be, hbe, hL⟩ := HL.out
  rw [hbe]
  have HL0 := Lib.hid (el_start n (M := M) hL)
  clear hL hbe HL H1
  go_loopw [28] (fun i wr => ∃ j : Nat, j ≤ m ∧ i = .int .i64 j ∧ ∃ AL cL AC cC, Hid (Lay w wr (rowsE g gl n (elE n M j) AL cL [lstC AC j cC (elC n M), blkE be [.slice AC j cC, .slice none 0 0, .slice none 0 0, .slice none 0 0, .slice none 0 0], blkE w.heap.size nils]))) (fun i _ => m - (intOf i).toNat)
  case atStart => exact ⟨0, by omega, rfl, none, 0, none, 0, HL0⟩
  case round =>
    clear HL0
    obtain ⟨j, hj, rfl, AL, cL, AC, cC, HQ⟩ := hrel
    by_cases hlt : j < m
    · obtain ⟨ad, rfl, hbl, m0, m1, m2, m3⟩ := (HR.out.below (HQ.out.bel.mono hB)).rec4 hlt
      clear hbl
      go_wp2
      clear m0 m1 m2 m3
      have HQ1 : Hid (Lay w (wr.alloc (.cells #[.int .i64 (M.k j), .int .i64 (M.f j), .int .i64 (M.t j), .int .i64 (M.v j)] 37)) (rowsE g gl n (elE n M j) AL cL [lstC AC j cC (elC n M), blkE be [.slice AC j cC, .slice none 0 0, .slice none 0 0, .slice none 0 0, .slice none 0 0], mvR wr.heap.size (M.k j) (M.f j) (M.t j) (M.v j), blkE w.heap.size nils])) :=
        (HQ.out.newB [.int .i64 (M.k j), .int .i64 (M.f j), .int .i64 (M.t j), .int .i64 (M.v j)] 37 4 rfl _ rfl).perm [1, 2, 3, 4, 5, 0, 6] (by decide) rfl
      refine at_lay (F := fun W' => Code.wp _ _ _ _ W') HQ1.out ?_
      intro W hW
      have HW := Lib.hid hW
      clear hW HQ1 HQ
      generalize wr.heap.size = q at HW ⊢
      have hs : MvS be q (.slice AC j cC) (M.k j) (M.f j) (M.t j) (M.v j) W := MvS.of HW.out 4 5 rfl (by omega) rfl
      have HS := Lib.hid hs
      have hEI := EI.all n M j
      refine wp_held_mask (MvS be q (.slice AC j cC) (M.k j) (M.f j) (M.t j) (M.v j)) [true, true, true, true, false, false, false, false, false] ?A1 (by kernel_rfl) rfl (by kernel_rfl) (by repeat' (first | (with_reducible apply tame_then) | (with_reducible apply tame_block) | (with_reducible apply tame_scope) | exact tame_gives | exact tame_body (fun _ _ h => ⟨_, h.1⟩))) hs ?head ?tail
      case head =>
        intro W5 ⟨s0, s1, s2, s3, s4⟩
        simp only [pick]
        go_wp2
        exact taken
      case tail =>
        clear hs
        simp only [pick, List.map_cons, List.map_nil, Bool.not_true, Bool.not_false]
        refine tail_step ?_
        go_wp2_with fail
        refine (do_any g gl n (elE n M j) AL cL _ w _ (M.k j) (M.f j) (M.t j) (M.v j) hn (hEI.mono (by omega)) (by exact HW.out.sim ⟨rfl, rfl, rfl, rfl⟩)).mono ?_
        rintro e w3 ⟨rfl, AL3, cL3, h3⟩
        have H3 : Hid (Lay w w3 (rowsE g gl n (elE n M (j + 1)) AL3 cL3 [lstC AC j cC (elC n M), blkE be [.slice AC j cC, .slice none 0 0, .slice none 0 0, .slice none 0 0, .slice none 0 0], mvR q (M.k j) (M.f j) (M.t j) (M.v j), blkE w.heap.size nils])) := h3
        clear h3 HW hEI
        go_wp2
        refine holds (MvS.of H3.out 4 5 rfl (by omega) rfl) ?_
        refine tail_step ?_
        go_wp2
        refine holds (MvS.of (H3.out.alloc _) 4 5 rfl (by omega) rfl) ?_
        refine tail_step ?_
        refine wpList_ap1 rfl (.tmp 33) (.tmp 37) _ rfl 28 iE _ 8 Try.underlying23 hiE hzE0 hzE1 hzE2 rfl w.heap.size rfl ((H3.out.alloc _).own 3 _ rfl) rfl (cell_new _ _ _ _ _ rfl (one_cell _)) (fun _ _ => rfl) (fun i => .int .i64 (elC n M i)) (fun _ _ => rfl) (one_at rfl) (j + 1) rfl (by unfold maxLen; omega) (by omega) (by have := H3.out.size; simp; omega) ?_
        intro A2 cap2 w4 ho hg ha
        have H4 : Hid (Lay w w4 (rowsE g gl n (elE n M (j + 1)) AL3 cL3 [lstC A2 (j + 1) cap2 (elC n M), blkE be [.slice AC j cC, .slice none 0 0, .slice none 0 0, .slice none 0 0, .slice none 0 0], mvR q (M.k j) (M.f j) (M.t j) (M.v j), blkE w.heap.size nils])) := (H3.out.alloc _).app 3 rfl ho hg ha
        clear ho hg ha H3
        have HS4 := Lib.hid (MvS.of H4.out 4 5 rfl (by omega) rfl : MvS be q (.slice AC j cC) (M.k j) (M.f j) (M.t j) (M.v j) w4)
        have d0 := HS4.out.1
        have e0 := H4.out.frz 4 rfl (by omega) 0
        go_wp2
        refine holds HS4.out ?_
        refine tail_step ?_
        go_wp2
        refine holds HS4.out ?_
        refine tail_last ?_
        go_wp2
        go_roundw
        case rel => exact ⟨j + 1, by omega, by go_num, AL3, cL3, A2, cap2, (H4.out.fld 4 0 (.slice A2 (j + 1) cap2) rfl (by omega) (by simp)).perm [0, 1, 2, 3, 4, 6] (by decide) rfl⟩
        case measure => simp [intOf]; omega
    · obtain rfl : j = m := by omega
      have c0 := (el_heads HQ.out).1
      have HQ0 : Hid (Lay w wr (rowsE g gl n (elE n M j) AL cL [lstC AC j cC (elC n M), blkE be [.slice AC j cC, .slice none 0 0, .slice none 0 0, .slice none 0 0, .slice none 0 0], lstI none 0 0 (fun i => .int .i64 ((elE n M j).T i : Nat)), lstI none 0 0 (fun i => .int .i64 ((elE n M j).R i)), lstI none 0 0 (fun i => .int .i64 ((elE n M j).V i)), blkE w.heap.size nils])) :=
        (((HQ.out.lnil 3 1 (fun i => .int .i64 ((elE n M j).V i))).lnil 3 1 (fun i => .int .i64 ((elE n M j).R i))).lnil 3 1 (fun i => .int .i64 ((elE n M j).T i : Nat))).perm [3, 4, 5, 6, 7, 0, 1, 2, 8] (by decide) rfl
      clear HQ
      go_wp2
      go_loopw [46] (fun i wr => ∃ q : Nat, q ≤ n ∧ i = .int .i64 q ∧ ∃ AT cT AR cR AV cV, Hid (Lay w wr (rowsE g gl n (elE n M j) AL cL [lstC AC j cC (elC n M), blkE be [.slice AC j cC, .slice AT q cT, .slice AR q cR, .slice AV q cV, .slice none 0 0], lstI AT q cT (fun i => .int .i64 ((elE n M j).T i : Nat)), lstI AR q cR (fun i => .int .i64 ((elE n M j).R i)), lstI AV q cV (fun i => .int .i64 ((elE n M j).V i)), blkE w.heap.size nils]))) (fun i _ => n - (intOf i).toNat)
      case atStart => exact ⟨0, by omega, rfl, none, 0, none, 0, none, 0, HQ0⟩
      case round =>
        clear HQ0 c0
        obtain ⟨q, hq, rfl, AT, cT, AR, cR, AV, cV, HQ⟩ := hrel
        by_cases hqn : q < n
        · obtain ⟨r0, r1, r2, r3⟩ := el_cells HQ.out (i := q) hqn
          go_wp2
          clear r0 r1 r2 r3
          have HQ1 : Hid (Lay w (wr.alloc (.cells #[.int .i64 ((elE n M j).T q : Nat), .int .i64 ((elE n M j).R q), .int .i64 ((elE n M j).V q), .int .u32 ((elE n M j).H q : Nat)] 46)) (rowsE g gl n (elE n M j) AL cL [lstC AC j cC (elC n M), blkE be [.slice AC j cC, .slice AT q cT, .slice AR q cR, .slice AV q cV, .slice none 0 0], lstI AT q cT (fun i => .int .i64 ((elE n M j).T i : Nat)), lstI AR q cR (fun i => .int .i64 ((elE n M j).R i)), lstI AV q cV (fun i => .int .i64 ((elE n M j).V i)),
              blk wr.heap.size 46 4 (ofL [.int .i64 ((elE n M j).T q : Nat), .int .i64 ((elE n M j).R q), .int .i64 ((elE n M j).V q), .int .u32 ((elE n M j).H q : Nat)]), blkE w.heap.size nils])) :=
            (HQ.out.newB [.int .i64 ((elE n M j).T q : Nat), .int .i64 ((elE n M j).R q), .int .i64 ((elE n M j).V q), .int .u32 ((elE n M j).H q : Nat)] 46 4 rfl _ rfl).perm [1, 2, 3, 4, 5, 6, 7, 8, 0, 9] (by decide) rfl
          refine at_lay (F := fun W' => Code.wp _ _ _ _ W') HQ1.out ?_
          intro W hW
          have HW := Lib.hid hW
          clear hW HQ1 HQ
          generalize wr.heap.size = qb at HW ⊢
          refine wp_lay HW.out [0, 1, 2, 3, 4, 5, 6, 7, 8, 9, 10, 11, 12, 13, 14, 15, 16, 17, 18] [50, 51, 52, 53, 54, 55, 56, 57, 58, 59, 60, 61, 62, 63, 64, 65, 66, 67, 68] [19, 20, 21, 22, 23] 19 [lane 5 1 4 24 3 8 (AT) (q) (cT) (fun i => .int .i64 ((elE n M j).T i : Nat)), lane 11 7 10 24 3 8 (AR) (q) (cR) (fun i => .int .i64 ((elE n M j).R i)), lane 17 13 16 24 3 8 (AV) (q) (cV) (fun i => .int .i64 ((elE n M j).V i))] (fun j => if j = 5 then 5 else if j = 11 then 6 else 7)
            [.v (.pointer (some ⟨be, 1, none⟩)), .v (.slice AT q cT), .v (.pointer (some ⟨qb, 0, none⟩)), .v (.int .i64 ((elE n M j).T q : Nat)), .box 3 (.int .i64 ((elE n M j).T q : Nat)), .v undef, .v (.pointer (some ⟨be, 2, none⟩)), .v (.slice AR q cR), .v (.pointer (some ⟨qb, 1, none⟩)), .v (.int .i64 ((elE n M j).R q)), .box 3 (.int .i64 ((elE n M j).R q)), .v undef, .v (.pointer (some ⟨be, 3, none⟩)), .v (.slice AV q cV), .v (.pointer (some ⟨qb, 2, none⟩)), .v (.int .i64 ((elE n M j).V q)), .box 3 (.int .i64 ((elE n M j).V q)), .v undef, .v (.pointer (some ⟨be, 1, none⟩))]
            (OneS be qb (.slice AT q cT) (.slice AR q cR) (.slice AV q cV) (.int .i64 ((elE n M j).T q : Nat)) (.int .i64 ((elE n M j).R q)) (.int .i64 ((elE n M j).V q))) (by kernel_rfl) (by kernel_rfl) rfl (by decide) rfl (by kernel_rfl) ⟨?rowat, ?injk⟩ ?inj ?val ?ok ?hS ?ext ?fin
          case rowat => intro r hr; simp only [List.mem_cons, List.not_mem_nil, or_false] at hr; rcases hr with rfl | rfl | rfl <;> rfl
          case injk => intro r hr q hq h; simp only [List.mem_cons, List.not_mem_nil, or_false] at hr hq; rcases hr with rfl | rfl | rfl <;> rcases hq with rfl | rfl | rfl <;> first | rfl | (exact absurd h (by simp))
          case inj => intro r hr; simp only [List.mem_cons, List.not_mem_nil, or_false] at hr; rcases hr with rfl | rfl | rfl <;> rfl
          case val => intro r hr; simp only [List.mem_cons, List.not_mem_nil, or_false] at hr; rcases hr with rfl | rfl | rfl <;> rfl
          case ok =>
            intro r hr
            simp only [List.mem_cons, List.not_mem_nil, or_false] at hr
            rcases hr with rfl | rfl | rfl
            · exact ⟨(show (5 : Nat) ∈ ([0, 1, 2, 3, 4, 5, 6, 7, 8, 9, 10, 11, 12, 13, 14, 15, 16, 17, 18] : List Nat) by decide), rfl, by intro o ho; cases ho; rfl, rfl, rfl, Try.underlying24, ⟨iI, _, hiI, hzI0, hzI1, hzI2, rfl⟩, by show q + 1 ≤ maxLen; unfold maxLen; omega, by show (q + 1) * 8 ≤ _; omega, fun v w h => h, fun v w h => h⟩
            · exact ⟨(show (11 : Nat) ∈ ([0, 1, 2, 3, 4, 5, 6, 7, 8, 9, 10, 11, 12, 13, 14, 15, 16, 17, 18] : List Nat) by decide), rfl, by intro o ho; cases ho; rfl, rfl, rfl, Try.underlying24, ⟨iI, _, hiI, hzI0, hzI1, hzI2, rfl⟩, by show q + 1 ≤ maxLen; unfold maxLen; omega, by show (q + 1) * 8 ≤ _; omega, fun v w h => h, fun v w h => h⟩
            · exact ⟨(show (17 : Nat) ∈ ([0, 1, 2, 3, 4, 5, 6, 7, 8, 9, 10, 11, 12, 13, 14, 15, 16, 17, 18] : List Nat) by decide), rfl, by intro o ho; cases ho; rfl, rfl, rfl, Try.underlying24, ⟨iI, _, hiI, hzI0, hzI1, hzI2, rfl⟩, by show q + 1 ≤ maxLen; unfold maxLen; omega, by show (q + 1) * 8 ≤ _; omega, fun v w h => h, fun v w h => h⟩
          case hS =>
            intro hk w1 hkp
            have hb := fun o (ho : o < 5) => lay_cell HW.out hk hkp 4 rfl (fun r hr => by simp only [List.mem_cons, List.not_mem_nil, or_false] at hr; rcases hr with rfl | rfl | rfl <;> simp) o ho
            have hq2 := fun o (ho : o < 4) => lay_cell HW.out hk hkp 8 rfl (fun r hr => by simp only [List.mem_cons, List.not_mem_nil, or_false] at hr; rcases hr with rfl | rfl | rfl <;> simp) o ho
            exact ⟨hb 1 (by omega), hb 2 (by omega), hb 3 (by omega), hq2 0 (by omega), hq2 1 (by omega), hq2 2 (by omega)⟩
          case ext =>
            intro i hi hn o ho a w1 hs hs1 hold hf
            obtain ⟨s1, s2, s3, q0, q1, q2⟩ := hs1
            simp only [List.mem_cons, List.not_mem_nil, or_false] at hi
            rcases hi with rfl | rfl | rfl | rfl | rfl | rfl | rfl | rfl | rfl | rfl | rfl | rfl | rfl | rfl | rfl | rfl | rfl | rfl | rfl
            all_goals cases ho
            · have h1 : a.tmps[7]?.getD undef = .pointer (some ⟨be, 0, none⟩) := hold 7 (by decide)
              exact does_v (.pointer (some ⟨be, 1, none⟩)) rfl (by go_simp)
            · have h1 : a.tmps[50]?.getD undef = .pointer (some ⟨be, 1, none⟩) := hf 0 50 rfl rfl rfl
              exact does_v (.slice AT q cT) rfl (by go_simp)
            · have h1 : a.tmps[11]?.getD undef = .pointer (some ⟨qb, 0, none⟩) := hold 11 (by decide)
              exact does_v (.pointer (some ⟨qb, 0, none⟩)) rfl (by go_simp)
            · have h1 : a.tmps[52]?.getD undef = .pointer (some ⟨qb, 0, none⟩) := hf 2 52 rfl rfl rfl
              exact does_v (.int .i64 ((elE n M j).T q : Nat)) rfl (by go_simp)
            · have h1 : a.tmps[53]?.getD undef = .int .i64 ((elE n M j).T q : Nat) := hf 3 53 rfl rfl rfl
              exact does_box 3 (.int .i64 ((elE n M j).T q : Nat)) rfl rfl hs (by go_simp)
            · cases hn
            · have h1 : a.tmps[7]?.getD undef = .pointer (some ⟨be, 0, none⟩) := hold 7 (by decide)
              exact does_v (.pointer (some ⟨be, 2, none⟩)) rfl (by go_simp)
            · have h1 : a.tmps[56]?.getD undef = .pointer (some ⟨be, 2, none⟩) := hf 6 56 rfl rfl rfl
              exact does_v (.slice AR q cR) rfl (by go_simp)
            · have h1 : a.tmps[11]?.getD undef = .pointer (some ⟨qb, 0, none⟩) := hold 11 (by decide)
              exact does_v (.pointer (some ⟨qb, 1, none⟩)) rfl (by go_simp)
            · have h1 : a.tmps[58]?.getD undef = .pointer (some ⟨qb, 1, none⟩) := hf 8 58 rfl rfl rfl
              exact does_v (.int .i64 ((elE n M j).R q)) rfl (by go_simp)
            · have h1 : a.tmps[59]?.getD undef = .int .i64 ((elE n M j).R q) := hf 9 59 rfl rfl rfl
              exact does_box 3 (.int .i64 ((elE n M j).R q)) rfl rfl hs (by go_simp)
            · cases hn
            · have h1 : a.tmps[7]?.getD undef = .pointer (some ⟨be, 0, none⟩) := hold 7 (by decide)
              exact does_v (.pointer (some ⟨be, 3, none⟩)) rfl (by go_simp)
            · have h1 : a.tmps[62]?.getD undef = .pointer (some ⟨be, 3, none⟩) := hf 12 62 rfl rfl rfl
              exact does_v (.slice AV q cV) rfl (by go_simp)
            · have h1 : a.tmps[11]?.getD undef = .pointer (some ⟨qb, 0, none⟩) := hold 11 (by decide)
              exact does_v (.pointer (some ⟨qb, 2, none⟩)) rfl (by go_simp)
            · have h1 : a.tmps[64]?.getD undef = .pointer (some ⟨qb, 2, none⟩) := hf 14 64 rfl rfl rfl
              exact does_v (.int .i64 ((elE n M j).V q)) rfl (by go_simp)
            · have h1 : a.tmps[65]?.getD undef = .int .i64 ((elE n M j).V q) := hf 15 65 rfl rfl rfl
              exact does_box 3 (.int .i64 ((elE n M j).V q)) rfl rfl hs (by go_simp)
            · cases hn
            · have h1 : a.tmps[7]?.getD undef = .pointer (some ⟨be, 0, none⟩) := hold 7 (by decide)
              exact does_v (.pointer (some ⟨be, 1, none⟩)) rfl (by go_simp)
          case fin =>
            intro y ρ w5 hy hs5 hρ hL
            have y0 : y 0 = .pointer (some ⟨be, 1, none⟩) := hy 0 (by decide) rfl
            have y1 : y 1 = .slice AT q cT := hy 1 (by decide) rfl
            have y2 : y 2 = .pointer (some ⟨qb, 0, none⟩) := hy 2 (by decide) rfl
            have y3 : y 3 = .int .i64 ((elE n M j).T q : Nat) := hy 3 (by decide) rfl
            have y6 : y 6 = .pointer (some ⟨be, 2, none⟩) := hy 6 (by decide) rfl
            have y7 : y 7 = .slice AR q cR := hy 7 (by decide) rfl
            have y8 : y 8 = .pointer (some ⟨qb, 1, none⟩) := hy 8 (by decide) rfl
            have y9 : y 9 = .int .i64 ((elE n M j).R q) := hy 9 (by decide) rfl
            have y12 : y 12 = .pointer (some ⟨be, 3, none⟩) := hy 12 (by decide) rfl
            have y13 : y 13 = .slice AV q cV := hy 13 (by decide) rfl
            have y14 : y 14 = .pointer (some ⟨qb, 2, none⟩) := hy 14 (by decide) rfl
            have y15 : y 15 = .int .i64 ((elE n M j).V q) := hy 15 (by decide) rfl
            have y18 : y 18 = .pointer (some ⟨be, 1, none⟩) := hy 18 (by decide) rfl
            obtain ⟨B0, b0, y5, r0⟩ := hρ _ (List.mem_cons_self ..)
            obtain ⟨B1, b1, y11, r1⟩ := hρ _ (List.mem_cons_of_mem _ (List.mem_cons_self ..))
            obtain ⟨B2, b2, y17, r2⟩ := hρ _ (List.mem_cons_of_mem _ (List.mem_cons_of_mem _ (List.mem_cons_self ..)))
            simp only [List.drop_succ_cons, List.drop_zero, List.zip_cons_cons, List.zip_nil_right, List.foldl_cons, List.foldl_nil, y0, y1, y2, y3, y6, y7, y8, y9, y12, y13, y14, y15, y18, y5, y11, y17]
            simp only [Act.put, List.setIfInBounds_toArray, List.set_cons_zero, List.set_cons_succ]
            have r0 : ρ 5 = _ := r0
            have r1 : ρ 11 = _ := r1
            have r2 : ρ 17 = _ := r2
            clear hy hρ y0 y1 y2 y3 y6 y7 y8 y9 y12 y13 y14 y15 y18 y5 y11 y17
            have hL2 : Lay w w5 (rowsE g gl n (elE n M j) AL cL [lstC AC j cC (elC n M), blkE be [.slice AC j cC, .slice AT q cT, .slice AR q cR, .slice AV q cV, .slice none 0 0], lstI B0 (q + 1) b0 (fun i => .int .i64 ((elE n M j).T i : Nat)), lstI B1 (q + 1) b1 (fun i => .int .i64 ((elE n M j).R i)), lstI B2 (q + 1) b2 (fun i => .int .i64 ((elE n M j).V i)),
              blk qb 46 4 (ofL [.int .i64 ((elE n M j).T q : Nat), .int .i64 ((elE n M j).R q), .int .i64 ((elE n M j).V q), .int .u32 ((elE n M j).H q : Nat)]), blkE w.heap.size nils]) := by
              unfold setRows at hL
              simp only [List.foldl_cons, List.foldl_nil, r0, r1, r2] at hL
              exact hL
            have HL2 := Lib.hid hL2
            clear hL hL2 r0 r1 r2 hs5
            have c1 := HL2.out.cellB 4 rfl 1 (by omega)
            have c2 := HL2.out.cellB 4 rfl 2 (by omega)
            have c3 := HL2.out.cellB 4 rfl 3 (by omega)
            simp only [ofL_1, ofL_2, ofL_3] at c1 c2 c3
            have f1 := HL2.out.frz 4 rfl (by omega) 1
            have f2 := HL2.out.frz 4 rfl (by omega) 2
            have f3 := HL2.out.frz 4 rfl (by omega) 3
            go_wp2
            go_roundw
            case rel => exact ⟨q + 1, by omega, by go_num, B0, b0, B1, b1, B2, b2, (((HL2.out.fld 4 1 (.slice B0 (q + 1) b0) rfl (by omega) (by simp)).fld 4 2 (.slice B1 (q + 1) b1) rfl (by omega) (by simp)).fld 4 3 (.slice B2 (q + 1) b2) rfl (by omega) (by simp)).perm [0, 1, 2, 3, 4, 5, 6, 7, 9] (by decide) rfl⟩
            case measure => simp [intOf]; omega
        · obtain rfl : q = n := by omega
          obtain ⟨_, c1⟩ := el_heads HQ.out
          have e0 := HQ.out.cellB 4 rfl 0 (by omega)
          have e1 := HQ.out.cellB 4 rfl 1 (by omega)
          have e2 := HQ.out.cellB 4 rfl 2 (by omega)
          have e3 := HQ.out.cellB 4 rfl 3 (by omega)
          have e4 := HQ.out.cellB 4 rfl 4 (by omega)
          have f4 := HQ.out.frz 4 rfl (by omega) 4
          have r0 := HQ.out.cellB 8 rfl 0 (by omega)
          have r1 := HQ.out.cellB 8 rfl 1 (by omega)
          have r2 := HQ.out.cellB 8 rfl 2 (by omega)
          have r3 := HQ.out.cellB 8 rfl 3 (by omega)
          have r4 := HQ.out.cellB 8 rfl 4 (by omega)
          have g0 := HQ.out.frz 8 rfl (by omega) 0
          have g1 := HQ.out.frz 8 rfl (by omega) 1
          have g2 := HQ.out.frz 8 rfl (by omega) 2
          have g3 := HQ.out.frz 8 rfl (by omega) 3
          have g4 := HQ.out.frz 8 rfl (by omega) 4
          have hne := HQ.out.ne_ 4 8 rfl rfl (by omega)
          simp only [ofL_0, ofL_1, ofL_2, ofL_3, ofL_4] at e0 e1 e2 e3 e4 r0 r1 r2 r3 r4
          go_wp2
          have hF := (((((HQ.out.fld 4 4 (.slice AL (elE q M j).led.length cL) rfl (by omega) (by simp)).fld 8 0 (.slice AC j cC) rfl (by omega) (by simp)).fld 8 1 (.slice AT q cT) rfl (by omega) (by simp)).fld 8 2 (.slice AR q cR) rfl (by omega) (by simp)).fld 8 3 (.slice AV q cV) rfl (by omega) (by simp)).fld 8 4 (.slice AL (elE q M j).led.length cL) rfl (by omega) (by simp)
          have hF2 := hF.perm (L' := rowsE g gl q (elE q M j) AL cL [lstC AC j cC (elC q M), lstI AT q cT (fun i => .int .i64 ((elE q M j).T i : Nat)), lstI AR q cR (fun i => .int .i64 ((elE q M j).R i)), lstI AV q cV (fun i => .int .i64 ((elE q M j).V i)), blkE w.heap.size [.slice AC j cC, .slice AT q cT, .slice AR q cR, .slice AV q cV, .slice AL (elE q M j).led.length cL]]) [0, 1, 2, 3, 5, 6, 7, 8] (by decide) rfl
          clear hF c1 e0 e1 e2 e3 e4 f4 r0 r1 r2 r3 r4 g0 g1 g2 g3 g4
          generalize (((((wr.setCell ⟨be, 4, none⟩ (.slice AL (elE q M j).led.length cL)).setCell ⟨w.heap.size, 0, none⟩ (.slice AC j cC)).setCell ⟨w.heap.size, 1, none⟩ (.slice AT q cT)).setCell ⟨w.heap.size, 2, none⟩ (.slice AR q cR)).setCell ⟨w.heap.size, 3, none⟩ (.slice AV q cV)).setCell ⟨w.heap.size, 4, none⟩ (.slice AL (elE q M j).led.length cL) = W9 at hF2 ⊢
          have r0 : W9.cell? ⟨w.heap.size, 0, none⟩ = some (.slice AC j cC) := hF2.cellB 7 rfl 0 (by omega)
          have r1 : W9.cell? ⟨w.heap.size, 1, none⟩ = some (.slice AT q cT) := hF2.cellB 7 rfl 1 (by omega)
          have r2 : W9.cell? ⟨w.heap.size, 2, none⟩ = some (.slice AR q cR) := hF2.cellB 7 rfl 2 (by omega)
          have r3 : W9.cell? ⟨w.heap.size, 3, none⟩ = some (.slice AV q cV) := hF2.cellB 7 rfl 3 (by omega)
          have r4 : W9.cell? ⟨w.heap.size, 4, none⟩ = some (.slice AL (elE q M j).led.length cL) := hF2.cellB 7 rfl 4 (by omega)
          exact bodyPost_ret (v := .tuple #[.agg #[.slice AC j cC, .slice AT q cT, .slice AR q cR, .slice AV q cV, .slice AL (elE q M j).led.length cL], .int .i64 0]) (by simp [results, Try.results6, go_sem, r0, r1, r2, r3, r4]) rfl ⟨_, rfl, g, gl, w.heap.size, AL, cL, AC, cC, AT, cT, AR, cR, AV, cV, rfl, hF2⟩
set_option maxRecDepth 100000 in
set_option maxHeartbeats 1600000 in
theorem el_bad (n : Int) (m cap : Nat) (A : Option Addr) (w : World) (hm : m ≤ maxLen) (hb : ¬ (1 ≤ n ∧ n ≤ 6 ∧ (m : Int) ≤ 60)) :
    Calls Try.prog 6 #[.int .i64 n, .slice A m cap] w fun e w' => e = .returned (.tuple #[.agg #[.slice none 0 0, .slice none 0 0, .slice none 0 0, .slice none 0 0, .slice none 0 0], .int .i64 1]) ∧ Below w.heap.size w w' := by
  unfold maxLen at hm
  have h' : n < 1 ∨ 6 < n ∨ 60 < (m : Int) := by omega
  clear hb
  go_enter Try.func6, Try.ntmps6
  go_wp2
  all_goals first
    | (exfalso; omega)
    | ((try simp only [Exit.inBlock, Exit.then]); refine bodyPost_ret (v := .tuple #[.agg #[.slice none 0 0, .slice none 0 0, .slice none 0 0, .slice none 0 0, .slice none 0 0], .int .i64 1]) (by simp [results, Try.results6, go_sem]) rfl ?_; exact ⟨rfl, (Below.refl _ _).alloc (Nat.le_refl _) _⟩)
end Go.Proofs.Ytlfffanadoldpaa
