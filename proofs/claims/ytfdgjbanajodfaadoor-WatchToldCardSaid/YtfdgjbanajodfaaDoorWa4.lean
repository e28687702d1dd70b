/- The drawn statements of watch.Play: what is made at its start; a deed done. -/
import Derived.Test.YtfdgjbanajodfaaDoorWa3
import Derived.Test.YtfdgjbanajodfaaDoorWaAsk
import Derived.Test.YtfdgjbanajodfaaDoorTrNew
import Derived.Test.YtfdgjbanajodfaaDoorFreeG
import Derived.Test.YtfdgjbanajodfaaDoorNew
set_option linter.unusedVariables false
set_option linter.unusedSimpArgs false
namespace Go.Proofs.YtfdgjbanajodfaaDoor
open Go.RowKit Go.Maps Go.MapKept

def GNew (w0 : World) (b0 b1 b2 : Bool) (v0 v1 v2 : Value) (w : World) : Prop :=
  ∃ tb bm mb gn, (b0 = true → v0 = .pointer (some ⟨tb, 0, none⟩)) ∧ (b1 = true → v1 = .map (some mb)) ∧ (b2 = true → v2 = .slice (some ⟨gn, 0, none⟩) 6 6) ∧
    LayM w0 w (cond b0 [rowT tb bm] [] ++ cond b2 [rowNs gn (fun _ => none) (fun _ => 0) (fun _ => [])] []) (cond b0 [⟨bm, TrE T0⟩] [] ++ cond b1 [⟨mb, SetW []⟩] [])
theorem GNew.call {w0 w : World} {b1 b2 : Bool} {v0 v1 v2 : Value} (h : GNew w0 false b1 b2 v0 v1 v2 w) :
    Calls Tryd.prog 19 #[] w fun e w' => ∃ v, e = .returned v ∧ GNew w0 true b1 b2 v v1 v2 w' := by
  obtain ⟨tb, bm, mb, gn, -, h1, h2, h3⟩ := h
  refine (new_any _ _ w0 w h3).mono ?_
  rintro e w' ⟨tb', bm', rfl, h4⟩
  exact ⟨_, rfl, tb', bm', mb, gn, fun _ => rfl, h1, h2, h4⟩
theorem GNew.map {w0 w : World} {b0 b2 : Bool} {v0 v1 v2 : Value} (h : GNew w0 b0 false b2 v0 v1 v2 w) : GNew w0 b0 true b2 v0 (.map (some w.heap.size)) v2 (w.alloc (.map #[] 0)) := by
  obtain ⟨tb, bm, mb, gn, h0, -, h2, h3⟩ := h
  have h4 := h3.newM (SetW []) SetW.zero _ rfl
  refine ⟨tb, bm, _, gn, h0, fun _ => rfl, h2, ?_⟩
  cases b0
  · exact h4
  · exact h4.permQ (List.Perm.swap _ _ _)
theorem GNew.mk {w0 w : World} {b0 b1 : Bool} {v0 v1 v2 : Value} (h : GNew w0 b0 b1 false v0 v1 v2 w) : GNew w0 b0 b1 true v0 v1 (.slice (some ⟨w.heap.size, 0, none⟩) 6 6) (w.alloc (.cells (madeCells (Value.slice none 0 0).cells 6) 36)) := by
  obtain ⟨tb, bm, mb, gn, h0, h1, -, h3⟩ := h
  have h4 := h3.make (.slice none 0 0) rfl 6 (by unfold maxLen; omega) 36 (gF (fun _ => none) (fun _ => 0) (fun _ => [])) (fun _ _ => rfl) _ rfl
  refine ⟨tb, bm, mb, _, h0, h1, fun _ => rfl, ?_⟩
  cases b0
  · exact h4
  · exact h4.permL (List.Perm.swap _ _ _)
theorem infoNts : (Tryd.prog.info? 36).map (fun i => (i.zero, i.size, i.bytes)) = some (some (.slice none 0 0), 1, 24) := by kernel_rfl
theorem nil_fam {w0 w : World} {L : List LRow} {Q : List MRow} (h : LayM w0 w L Q) : LayM w0 w (famNt (fun _ => none) (fun _ => 0) (fun _ => []) ++ L) Q :=
  (((((h.lnil 38 2 (ntF [])).lnil 38 2 (ntF [])).lnil 38 2 (ntF [])).lnil 38 2 (ntF [])).lnil 38 2 (ntF [])).lnil 38 2 (ntF [])
theorem wplay_bad (m cap : Nat) (A : Option Addr) (w : World) (hm : m ≤ maxLen) (hb : 60 < m) :
    Calls Tryd.prog 9 #[.slice A m cap] w fun e w' => e = .returned (.tuple #[.slice none 0 0, .slice none 0 0, .int .i64 1]) ∧ w' = w := by
  unfold maxLen at hm
  go_enter Tryd.func9, Tryd.ntmps9
  go_wp2
  refine bodyPost_ret (v := .tuple #[.slice none 0 0, .slice none 0 0, .int .i64 1]) (by simp [results, Tryd.results9, go_sem]) rfl ?_
  exact ⟨rfl, rfl⟩
section
variable {w0 w : World} {pb tb bm mb gn : Nat} {NA : Nat → Option Addr} {NC : Nat → Nat} {nt : Nat → List (Nat × Str)} {R : List LRow} {Q : List MRow}
theorem tuckW_perm {α : Type} (X Y F R : List α) : (X ++ (Y ++ (F ++ R))).Perm (Y ++ (F ++ (X ++ R))) := by
  have h : (X ++ (Y ++ F)).Perm ((Y ++ F) ++ X) := List.perm_append_comm
  have := h.append_right R
  simpa only [List.append_assoc] using this
theorem wn_tuck (X : List LRow) (h : LayM w0 w (X ++ rowsW pb tb mb gn NA NC nt R) Q) : LayM w0 w (rowsW pb tb mb gn NA NC nt (X ++ R)) Q :=
  h.permL (tuckW_perm X [rowPl pb tb mb gn, rowNs gn NA NC nt] (famNt NA NC nt) R)
theorem wn_untuck (X : List LRow) (h : LayM w0 w (rowsW pb tb mb gn NA NC nt (X ++ R)) Q) : LayM w0 w (X ++ rowsW pb tb mb gn NA NC nt R) Q :=
  h.permL (tuckW_perm X [rowPl pb tb mb gn, rowNs gn NA NC nt] (famNt NA NC nt) R).symm
theorem vr_in {a t u : LRow} (h : LayM w0 w (a :: t :: u :: rowsW pb tb mb gn NA NC nt R) Q) : LayM w0 w (t :: u :: rowsW pb tb mb gn NA NC nt (a :: R)) Q :=
  h.permL (List.perm_middle (l₁ := t :: u :: rowPl pb tb mb gn :: rowNs gn NA NC nt :: famNt NA NC nt)).symm
/-- A deed done, and a place made for what it told, in whatever order. -/
def GDo (w0 : World) (tb bm : Nat) (R : List LRow) (Q : List MRow) (st : TS) (d : Deed) (b6 b7 : Bool) (v6 v7 : Value) (w : World) : Prop :=
  ∃ AN cN t9, (b6 = true → v6 = toldV AN cN (doS st d).1) ∧ (b7 = true → v7 = .pointer (some ⟨t9, 0, none⟩)) ∧
    LayM w0 w (cond b6 [rowS AN cN (doS st d).1.names] [] ++ (cond b7 [blk t9 35 4 (ofL told0)] [] ++ rowT tb bm :: R)) (⟨bm, TrE (cond b6 (doS st d).2 st)⟩ :: Q)
theorem GDo.lay {st : TS} {d : Deed} {b6 b7 : Bool} {v6 v7 : Value} (h : GDo w0 tb bm R Q st d b6 b7 v6 v7 w) : Lay w0 w (rowT tb bm :: R) := by
  obtain ⟨AN, cN, t9, -, -, h⟩ := h
  exact (h.lay.subL (List.sublist_append_right _ _)).subL (List.sublist_append_right _ _)
theorem GDo.call {st : TS} {d : Deed} {b7 : Bool} {v6 v7 : Value} (h : GDo w0 tb bm R Q st d false b7 v6 v7 w) (hd : DeedL d) (hT : TrOk st) :
    Calls Tryd.prog 20 #[.pointer (some ⟨tb, 0, none⟩), .agg #[.int .i64 d.kind, .string (bs d.path), .string (bs d.data), .int .i64 d.version]] w fun e w' => ∃ v, e = .returned v ∧ GDo w0 tb bm R Q st d true b7 v v7 w' := by
  obtain ⟨AN, cN, t9, -, h7, h⟩ := h
  refine (do_any tb bm _ Q w0 w st d hd hT (h.permL List.perm_middle)).mono ?_
  rintro e w' ⟨v, rfl, A2, c2, rfl, h2⟩
  exact ⟨_, rfl, A2, c2, t9, fun _ => rfl, h7, h2.permL (List.perm_middle.symm.cons _)⟩
theorem GDo.mk {st : TS} {d : Deed} {b6 : Bool} {v6 v7 : Value} (h : GDo w0 tb bm R Q st d b6 false v6 v7 w) : GDo w0 tb bm R Q st d b6 true v6 (.pointer (some ⟨w.heap.size, 0, none⟩)) (w.alloc (.cells told0.toArray 35)) := by
  obtain ⟨AN, cN, t9, h6, -, h⟩ := h
  have h2 := h.newB told0 35 4 rfl _ rfl
  refine ⟨AN, cN, w.heap.size, h6, fun _ => rfl, ?_⟩
  cases b6
  · exact h2
  · exact h2.permL (List.Perm.swap _ _ _)
end
theorem LayM.putW {w0 w : World} {L : List LRow} {Q : List MRow} (h : LayM w0 w L Q) (i b : Nat) (l : List WKey) (hi : Q[i]? = some ⟨b, SetW l⟩) (p : WKey) (hp : KeyOkW p) :
    ∃ w2, (Instr.mapUpdate 66 (.map (some b)) (keyW p) (.bool true)).run Tryd.prog w = .ok () w2 ∧ LayM w0 w2 L (Q.set i ⟨b, SetW (addW l p)⟩) := by
  obtain ⟨es, c, hb, hs⟩ := h.mp i hi
  have hs : SetW l es c := hs
  obtain ⟨es', c', h1, h2⟩ := hs.put hb p hp
  exact ⟨_, h1, h.setM i hi es' c' (SetW (addW l p)) h2⟩
theorem keyW_int {xw dk : Int} {p : Str} (h1 : 0 ≤ xw) (h2 : 0 ≤ dk) : keyW (xw.toNat, dk.toNat, p) = .agg #[.int .i64 xw, .int .i64 dk, .string (bs p)] := by
  unfold keyW
  show Value.agg #[.int .i64 (xw.toNat : Nat), .int .i64 (dk.toNat : Nat), .string (bs p)] = _
  rw [Int.toNat_of_nonneg h1, Int.toNat_of_nonneg h2]
theorem told_one (A : Option Addr) (c : Nat) (a : Ans) : ∀ k, k < 1 * 4 → (ofL (toldL A c a) k).oneCell' = true := fun k hk => by
  rcases (by omega : k = 0 ∨ k = 1 ∨ k = 2 ∨ k = 3) with rfl | rfl | rfl | rfl <;> rfl
theorem told_next {VR : List LRow} {G : Nat → Value} {X : Nat → AskX} {j : Nat} {a : Ans} {r : LRow} (h : ∀ t, t < j → TdI VR G t (wans X t)) (ha : wans X j = a) (k : Nat) (AN : Option Addr) (cN : Nat) (hr : (r :: VR)[k]? = some (rowS AN cN a.names)) :
    ∀ t, t < j + 1 → TdI (r :: VR) (catG (j * 4) G (toldL AN cN a)) t (wans X t) := fun t ht => by
  rcases Nat.lt_succ_iff_lt_or_eq.1 ht with h1 | rfl
  · exact ((h t h1).sub (RowsIn.cons _ _)).congr fun k hk => by unfold catG; rw [if_pos (by omega)]
  · rw [ha]
    exact ⟨k, AN, cN, hr, fun k hk => by unfold catG; rw [if_neg (by omega), Nat.add_sub_cancel_left]⟩
set_option maxRecDepth 100000 in
set_option maxHeartbeats 1600000 in
theorem wplay_good (m cap B : Nat) (A : Option Addr) (X : Nat → AskX) (w : World) (hm : m ≤ 60) (hB : B ≤ w.heap.size) (hD : ∀ i, i < m → DeedL (X i).deed) (hr : Rd w B A (m * 6) (akF X)) :
    Calls Tryd.prog 9 #[.slice A m cap] w (Gives fun v w' => ∃ AC cC G VR gn NA NC, v = .tuple #[.slice AC m cC, .slice (some ⟨gn, 0, none⟩) 6 6, .int .i64 0] ∧
      Lay w w' (rowTd AC m cC G :: rowNs gn NA NC (wst X m).nt :: (famNt NA NC (wst X m).nt ++ VR)) ∧ ∀ t, t < m → TdI VR G t (wans X t)) := by
  have HR := Lib.hid hr; clear hr
  have HD := Lib.hid hD; clear hD
  obtain ⟨iT, hiT, hz0, hz1, hz2⟩ := info_parts infoTold
  obtain ⟨iO, hiO, hzO0, hzO1, hzO2⟩ := info_parts infoNts
  go_enter Tryd.func9, Tryd.ntmps9
  go_wp2
  refine wp_freeG [0, 1, 2] [13, 14, 15] [3, 4, 5] 3 (fun L y W => GNew w (L 0) (L 1) (L 2) (y 0) (y 1) (y 2) W) (by kernel_rfl) (by kernel_rfl) (by kernel_rfl) (by decide) rfl (by kernel_rfl) ?hG ?ext ?h0 ?fin
  case hG =>
    intro L y y' W hy h
    rw [← hy 0 (by decide), ← hy 1 (by decide), ← hy 2 (by decide)]
    exact h
  case h0 => exact fun y => ⟨0, 0, 0, 0, (fun h => absurd h (by decide)), (fun h => absurd h (by decide)), (fun h => absurd h (by decide)), (Lay.nil w).drew.toM⟩
  case ext =>
    intro i hi o ho L y a w1 hL hg hold hf
    simp only [List.mem_cons, List.not_mem_nil, or_false] at hi
    rcases hi with rfl | rfl | rfl
    all_goals cases ho
    · rw [hL] at hg
      refine does_call (f := 19) (args := #[]) (by go_simp) hg.call
    · rw [hL] at hg
      have hmm := @run_makeMap Tryd.prog
      refine does_run (v := .map (some w1.heap.size)) (w' := w1.alloc (.map #[] 0)) (by go_simp) hg.map
    · rw [hL] at hg
      exact does_run (nspec_mk _ _ rfl _ iO _ _ Tryd.underlying24 hiO hzO0 hzO1 hzO2 rfl (n := 6) (by omega) (by omega)) hg.mk
  case fin =>
    intro y w1 hg
    obtain ⟨tb, bm, mb, gn, h0, h1, h2, h3⟩ := hg
    have h0 := h0 (by kernel_rfl)
    have h1 := h1 (by kernel_rfl)
    have h2 := h2 (by kernel_rfl)
    have h3 : LayM w w1 [rowT tb bm, rowNs gn (fun _ => none) (fun _ => 0) (fun _ => [])] [⟨bm, TrE T0⟩, ⟨mb, SetW []⟩] := h3
    simp only [List.drop_succ_cons, List.drop_zero, List.zip_cons_cons, List.zip_nil_right, List.foldl_cons, List.foldl_nil, h0, h1, h2]
    simp only [Act.put, List.setIfInBounds_toArray, List.set_cons_zero, List.set_cons_succ]
    have HS := Lib.hid ((nil_fam ((h3.newB [.pointer (some ⟨tb, 0, none⟩), .map (some mb), .slice (some ⟨gn, 0, none⟩) 6 6] 68 3 rfl _ rfl).lnil 35 4 (fun _ => undef))).perm [8, 6, 7, 9, 0, 1, 2, 3, 4, 5] (by decide) (L' := rowT tb bm :: rowTd none 0 0 (fun _ => undef) :: rowsW w1.heap.size tb mb gn (fun _ => none) (fun _ => 0) (fun _ => []) []) rfl)
    clear h0 h1 h2 h3
    go_wp2
    generalize w1.heap.size = pb at *
    go_loopw [6, 20] (fun lv i wr => ∃ (j : Nat) (AC : Option Addr) (cC : Nat) (G : Nat → Value) (VR : List LRow) (NA : Nat → Option Addr) (NC : Nat → Nat), j ≤ m ∧ i = .int .i64 (j : Nat) ∧ lv = .slice AC j cC ∧ Hid (LayM w wr (rowT tb bm :: rowTd AC j cC G :: rowsW pb tb mb gn NA NC (wst X j).nt VR) [⟨bm, TrE (wst X j).st⟩, ⟨mb, SetW (wst X j).ws⟩]) ∧ Hid (∀ t, t < j → TdI VR G t (wans X t))) (fun _ i _ => m - (intOf i).toNat)
    case atStart => exact ⟨0, none, 0, _, [], _, _, by omega, rfl, rfl, HS, Lib.hid fun t ht => absurd ht (by omega)⟩
    case round =>
      clear HS
      obtain ⟨j, AC, cC, G, VR, NA, NC, hj, rfl, rfl, HQ, HT⟩ := hrel
      by_cases hlt : j < m
      · obtain ⟨ad, rfl, hbl, m0, m1, m2, m3, m4, m5⟩ := (HR.out.below (HQ.out.lay.bel.mono hB)).recA hlt
        clear hbl
        have hdl := HD.out j hlt
        have HB := Lib.hid (wst_ok X j fun i hi => HD.out i (by omega))
        have HSA := Lib.hid (show askW (wst X j) (X j) = (wans X j, wst X (j + 1)) from rfl)
        obtain ⟨σ, hσ⟩ : ∃ σ, wst X j = σ := ⟨_, rfl⟩
        obtain ⟨σ1, hσ1⟩ : ∃ σ, wst X (j + 1) = σ := ⟨_, rfl⟩
        obtain ⟨a, ha⟩ : ∃ a, wans X j = a := ⟨_, rfl⟩
        obtain ⟨y, hy⟩ : ∃ y, X j = y := ⟨_, rfl⟩
        rw [hσ, hσ1, ha, hy] at HSA
        rw [hσ] at HQ HB
        rw [hy] at m0 m1 m2 m3 m4 m5 hdl
        have HA := Lib.hid ha
        have HS1 := Lib.hid hσ1
        clear hσ hσ1 ha hy
        obtain ⟨xw, xb, dk, p, xd, dv⟩ := y
        dsimp only at m0 m1 m2 m3 m4 m5
        have HDL := Lib.hid hdl
        clear hdl
        go_upto_region 8 with (fail)
        refine at_layM (F := fun W' => Code.wp _ _ _ _ W') (HQ.out.newB (cellsA ⟨xw, xb, dk, p, xd, dv⟩) 32 6 rfl _ rfl) ?_
        intro W hW
        have HW := Lib.hid hW
        clear hW HQ m0 m1 m2 m3 m4 m5
        generalize wr.heap.size = t8 at HW ⊢
        have x0 := HW.out.lay.cellB 0 rfl 0 (by omega)
        have x1 := HW.out.lay.cellB 0 rfl 1 (by omega)
        have x2 := HW.out.lay.cellB 0 rfl 2 (by omega)
        have x3 := HW.out.lay.cellB 0 rfl 3 (by omega)
        have x4 := HW.out.lay.cellB 0 rfl 4 (by omega)
        have x5 := HW.out.lay.cellB 0 rfl 5 (by omega)
        simp only [cellsA, cellsD, List.cons_append, List.nil_append, ofL_0, ofL_1, ofL_2, ofL_3, ofL_4, ofL_5] at x0 x1 x2 x3 x4 x5
        by_cases hw : 0 ≤ xw ∧ xw < 6
        · obtain ⟨hw0, hw6⟩ := hw
          have hs2 := ask_st (σ := σ) (x := ⟨xw, xb, ⟨dk, p, xd, dv⟩⟩) ⟨hw0, hw6⟩
          rw [HSA.out] at hs2
          have HA1 : Hid (a = (doS σ.st ⟨dk, p, xd, dv⟩).1) := Lib.hid hs2.1
          have HT1 : Hid (σ1.st = (doS σ.st ⟨dk, p, xd, dv⟩).2) := Lib.hid hs2.2
          have HTB := Lib.hid (HB.out.tr.ok (by omega))
          have HG0 := Lib.hid (HW.out.drew.permL (List.Perm.swap _ _ _))
          clear hs2
          go_wp2
          refine wp_freeG [0, 1, 2, 3, 4, 5, 6, 7] [36, 37, 38, 39, 40, 41, 42, 9] [8] 8 (fun L y W' => (L 0 = true → y 0 = .pointer (some ⟨pb, 0, none⟩)) ∧ (L 1 = true → y 1 = .pointer (some ⟨pb, 0, none⟩)) ∧ (L 2 = true → y 2 = .pointer (some ⟨pb, 0, none⟩)) ∧ (L 3 = true → y 3 = .pointer (some ⟨tb, 0, none⟩)) ∧ (L 4 = true → y 4 = .pointer (some ⟨t8, 2, none⟩)) ∧
            (L 5 = true → y 5 = .agg #[.int .i64 dk, .string (bs p), .string (bs xd), .int .i64 dv]) ∧ GDo w tb bm (blk t8 32 6 (ofL (cellsA ⟨xw, xb, dk, p, xd, dv⟩)) :: rowTd AC j cC G :: rowsW pb tb mb gn NA NC σ.nt VR) [⟨mb, SetW σ.ws⟩] σ.st ⟨dk, p, xd, dv⟩ (L 6) (L 7) (y 6) (y 7) W') (by kernel_rfl) (by kernel_rfl) (by kernel_rfl) (by decide) rfl (by kernel_rfl) ?hG ?ext ?h0 ?fin
          case hG =>
            intro L y y' W' hy h
            rw [← hy 0 (by decide), ← hy 1 (by decide), ← hy 2 (by decide), ← hy 3 (by decide), ← hy 4 (by decide), ← hy 5 (by decide), ← hy 6 (by decide), ← hy 7 (by decide)]
            exact h
          case h0 => exact fun y => ⟨(fun h => absurd h (by decide)), (fun h => absurd h (by decide)), (fun h => absurd h (by decide)), (fun h => absurd h (by decide)), (fun h => absurd h (by decide)), (fun h => absurd h (by decide)), none, 0, 0, (fun h => absurd h (by decide)), (fun h => absurd h (by decide)), HG0.out⟩
          case ext =>
            intro i hi o ho L y a w2 hL hg hold hf
            simp only [List.mem_cons, List.not_mem_nil, or_false] at hi
            obtain ⟨g0, g1, g2, g3, g4, g5, gd⟩ := hg
            have c0 := gd.lay.cellB 3 rfl 0 (by omega)
            have c2 := gd.lay.cellB 1 rfl 2 (by omega)
            have c3 := gd.lay.cellB 1 rfl 3 (by omega)
            have c4 := gd.lay.cellB 1 rfl 4 (by omega)
            have c5 := gd.lay.cellB 1 rfl 5 (by omega)
            simp only [cellsA, cellsD, List.cons_append, List.nil_append, ofL_0, ofL_1, ofL_2, ofL_3, ofL_4, ofL_5] at c0 c2 c3 c4 c5
            rcases hi with rfl | rfl | rfl | rfl | rfl | rfl | rfl | rfl
            all_goals cases ho
            · exact does_run (nspec_move (v := .pointer (some ⟨pb, 0, none⟩)) _ rfl (eval_tmp (hold 5 (by decide)))) ⟨fun _ => rfl, g1, g2, g3, g4, g5, gd⟩
            · have e := (hf 0 36 rfl rfl).2.trans (g0 (hf 0 36 rfl rfl).1)
              exact does_run (v := .pointer (some ⟨pb, 0, none⟩)) (w' := w2) (by go_simp) ⟨g0, fun _ => rfl, g2, g3, g4, g5, gd⟩
            · have e := (hf 1 37 rfl rfl).2.trans (g1 (hf 1 37 rfl rfl).1)
              exact does_run (v := .pointer (some ⟨pb, 0, none⟩)) (w' := w2) (by go_simp) ⟨g0, g1, fun _ => rfl, g3, g4, g5, gd⟩
            · have e := (hf 2 38 rfl rfl).2.trans (g2 (hf 2 38 rfl rfl).1)
              exact does_run (v := .pointer (some ⟨tb, 0, none⟩)) (w' := w2) (by go_simp) ⟨g0, g1, g2, fun _ => rfl, g4, g5, gd⟩
            · have e : a.tmps[8]?.getD undef = .pointer (some ⟨t8, 0, none⟩) := hold 8 (by decide)
              exact does_run (v := .pointer (some ⟨t8, 2, none⟩)) (w' := w2) (by go_simp) ⟨g0, g1, g2, g3, fun _ => rfl, g5, gd⟩
            · have e := (hf 4 40 rfl rfl).2.trans (g4 (hf 4 40 rfl rfl).1)
              exact does_run (v := .agg #[.int .i64 dk, .string (bs p), .string (bs xd), .int .i64 dv]) (w' := w2) (by go_simp) ⟨g0, g1, g2, g3, g4, fun _ => rfl, gd⟩
            · have e3 := (hf 3 39 rfl rfl).2.trans (g3 (hf 3 39 rfl rfl).1)
              have e5 := (hf 5 41 rfl rfl).2.trans (g5 (hf 5 41 rfl rfl).1)
              rw [hL] at gd
              refine does_call (f := 20) (args := #[.pointer (some ⟨tb, 0, none⟩), .agg #[.int .i64 dk, .string (bs p), .string (bs xd), .int .i64 dv]]) (by go_simp) ((gd.call HDL.out HTB.out).mono ?_)
              rintro e w3 ⟨v, rfl, gd2⟩
              exact ⟨v, rfl, g0, g1, g2, g3, g4, g5, gd2⟩
            · rw [hL] at gd
              exact does_run (v := .pointer (some ⟨w2.heap.size, 0, none⟩)) (w' := w2.alloc (.cells told0.toArray 35)) (by go_simp) ⟨g0, g1, g2, g3, g4, g5, gd.mk⟩
          case fin =>
            intro y w2 hg
            obtain ⟨g0, g1, g2, g3, g4, g5, AN, cN, t9, g6, g7, hL⟩ := hg
            have g0 := g0 (by kernel_rfl)
            have g1 := g1 (by kernel_rfl)
            have g2 := g2 (by kernel_rfl)
            have g3 := g3 (by kernel_rfl)
            have g4 := g4 (by kernel_rfl)
            have g5 := g5 (by kernel_rfl)
            have g6 := g6 (by kernel_rfl)
            have g7 := g7 (by kernel_rfl)
            have hL : LayM w w2 (rowS AN cN (doS σ.st ⟨dk, p, xd, dv⟩).1.names :: blk t9 35 4 (ofL told0) :: rowT tb bm :: blk t8 32 6 (ofL (cellsA ⟨xw, xb, dk, p, xd, dv⟩)) :: rowTd AC j cC G :: rowsW pb tb mb gn NA NC σ.nt VR) [⟨bm, TrE (doS σ.st ⟨dk, p, xd, dv⟩).2⟩, ⟨mb, SetW σ.ws⟩] := hL
            rw [← HA1.out, ← HT1.out] at hL
            rw [← HA1.out] at g6
            simp only [List.drop_succ_cons, List.drop_zero, List.zip_cons_cons, List.zip_nil_right, List.foldl_cons, List.foldl_nil, g0, g1, g2, g3, g4, g5, g6, g7]
            simp only [Act.put, List.setIfInBounds_toArray, List.set_cons_zero, List.set_cons_succ]
            clear g0 g1 g2 g3 g4 g5 g6 g7 x0 x1 x2 x3 x4 x5 HG0 HW
            have HL := Lib.hid hL
            clear hL
            have y0 := HL.out.lay.frz 1 rfl (by omega) 0
            have y1 := HL.out.lay.frz 1 rfl (by omega) 1
            have y2 := HL.out.lay.frz 1 rfl (by omega) 2
            have y3 := HL.out.lay.frz 1 rfl (by omega) 3
            have r0 := HL.out.lay.cellB 1 rfl 0 (by omega)
            have r1 := HL.out.lay.cellB 1 rfl 1 (by omega)
            have r2 := HL.out.lay.cellB 1 rfl 2 (by omega)
            have r3 := HL.out.lay.cellB 1 rfl 3 (by omega)
            simp only [ofL_0, ofL_1, ofL_2, ofL_3] at r0 r1 r2 r3
            unfold toldV
            go_upto_region 11 with (fail)
            have HF := Lib.hid ((((HL.out.fld 1 0 (.int .i64 a.code) rfl (by omega) (by simp)).fld 1 1 (.string (bs a.data)) rfl (by omega) (by simp)).fld 1 2 (.int .i64 a.ver) rfl (by omega) (by simp)).fld 1 3 (.slice AN a.names.length cN) rfl (by omega) (by simp))
            refine at_layM (F := fun W' => Code.wp _ _ _ _ W') HF.out ?_
            intro W3 hW3
            have H3 := Lib.hid hW3
            clear hW3 HF HL r0 r1 r2 r3 y0 y1 y2 y3
            have r0 := H3.out.lay.cellB 1 rfl 0 (by omega)
            have r1 := H3.out.lay.cellB 1 rfl 1 (by omega)
            have r2 := H3.out.lay.cellB 1 rfl 2 (by omega)
            have r3 := H3.out.lay.cellB 1 rfl 3 (by omega)
            simp only [List.set_cons_zero, List.set_cons_succ, ofL_0, ofL_1, ofL_2, ofL_3] at r0 r1 r2 r3
            go_upto_region 12 with (first
              | (at_builtin
                 refine wpList_ap rfl (.tmp 43) (.tmp 45) _ rfl 35 iT _ 4 56 Tryd.underlying23 hiT hz0 hz1 hz2 rfl (by omega) w.heap.size (n := j) rfl ((H3.out.alloc _).lay.own 4 _ rfl) (B := W3.heap.size + 1) (m := 1) (g := ofL (toldL AN cN a)) rfl ?hr (told_one AN cN a) (catG (j * 4) G (toldL AN cN a)) (fun k hk => by unfold catG; rw [if_pos hk]) (fun k hk => by unfold catG; rw [if_neg (by omega), Nat.add_sub_cancel_left]) (j + 1) rfl (by unfold maxLen; omega) (by omega) (H3.out.alloc _).size ?_
                 case hr =>
                   refine cell_new W3 _ _ _ W3.heap.size rfl (fun k hk => ?_)
                   rcases (by omega : k = 0 ∨ k = 1 ∨ k = 2 ∨ k = 3) with rfl | rfl | rfl | rfl <;> rfl
                 intro A2 c2 w4 ho hg hh
                 have H4 := Lib.hid ((H3.out.alloc _).app 4 rfl ho hg hh)
                 clear ho hg hh)
              | fail)
            clear H3 r0 r1 r2 r3
            have HTN := Lib.hid (told_next (r := rowS AN cN a.names) HT.out HA.out 0 AN cN rfl)
            have r0 := H4.out.lay.cellB 1 rfl 0 (by omega)
            have x1 := H4.out.lay.cellB 3 rfl 1 (by omega)
            have x2 := H4.out.lay.cellB 3 rfl 2 (by omega)
            have x3 := H4.out.lay.cellB 3 rfl 3 (by omega)
            have x4 := H4.out.lay.cellB 3 rfl 4 (by omega)
            have x5 := H4.out.lay.cellB 3 rfl 5 (by omega)
            simp only [List.set_cons_zero, List.set_cons_succ, cellsA, cellsD, List.cons_append, List.nil_append, ofL_0, ofL_1, ofL_2, ofL_3, ofL_4, ofL_5] at r0 x1 x2 x3 x4 x5
            by_cases hc : (doS σ.st ⟨dk, p, xd, dv⟩).1.code = 0
            · have hkn := code_name hc
              have he : (a, σ1) = ((doS σ.st ⟨dk, p, xd, dv⟩).1, watchW (tellN ⟨dk, p, xd, dv⟩ ⟨(doS σ.st ⟨dk, p, xd, dv⟩).2, σ.ws, σ.nt⟩ 6) ⟨xw, xb, ⟨dk, p, xd, dv⟩⟩) := HSA.out.symm.trans (ask_ok ⟨hw0, hw6⟩ hc)
              rw [← HT1.out] at he
              have hb0 : (a.code == 0) = true := by rw [HA1.out]; simp [hc]
              clear hc
              obtain ⟨hn1, hk1, hk5⟩ := hkn
              have hk1 : 1 ≤ dk := hk1
              have hk5 : dk ≤ 5 := hk5
              have H47 := Lib.hid (nameB_sl hn1)
              have HE : Hid (σ1 = watchW (tellN ⟨dk, p, xd, dv⟩ ⟨σ1.st, σ.ws, σ.nt⟩ 6) ⟨xw, xb, ⟨dk, p, xd, dv⟩⟩) := Lib.hid (congrArg Prod.snd he)
              clear he hn1
              have HTL := Lib.hid (tell_any pb tb mb gn ⟨σ1.st, σ.ws, σ.nt⟩ ⟨dk, p, xd, dv⟩ NA NC _ _ w w4 hk1 hk5 H47.out HDL.out.pl (fun i => Nat.le_trans (HB.out.nt i) (by omega)) ((wn_tuck [_, _, _, _, _] H4.out).permQ (List.Perm.swap _ _ _)))
              go_upto_region 14 with (first
                | (go_at_call 21
                   refine HTL.out.mono ?_
                   rintro e w5 ⟨v5, rfl, NA2, NC2, rfl, h5⟩
                   have H5 := Lib.hid (wn_untuck [_, _, _, _, _] (h5.permQ (List.Perm.swap _ _ _)))
                   clear h5)
                | fail)
              clear H4 HTL r0 x1 x2 x3 x4 x5
              have hst : (tellN ⟨dk, p, xd, dv⟩ ⟨σ1.st, σ.ws, σ.nt⟩ 6).st = σ1.st := tell_st _ _ _
              have HST := Lib.hid hst
              clear hst
              generalize tellN ⟨dk, p, xd, dv⟩ ⟨σ1.st, σ.ws, σ.nt⟩ 6 = τ at H5 HE HST
              have p1 := H5.out.lay.cellB 5 rfl 1 (by omega)
              have x0 := H5.out.lay.cellB 3 rfl 0 (by omega)
              have x1 := H5.out.lay.cellB 3 rfl 1 (by omega)
              have x2 := H5.out.lay.cellB 3 rfl 2 (by omega)
              have x3 := H5.out.lay.cellB 3 rfl 3 (by omega)
              simp only [cellsA, cellsD, List.cons_append, List.nil_append, ofL_0, ofL_1, ofL_2, ofL_3] at p1 x0 x1 x2 x3
              cases xb
              · have he : σ1 = τ := HE.out.trans (if_neg (fun h => absurd (show false = true from h.1) Bool.false_ne_true))
                have HE2 := Lib.hid he
                clear he
                go_wp2
                go_roundw
                case rel => exact ⟨j + 1, A2, c2, _, rowS AN cN a.names :: VR, NA2, NC2, by omega, by go_num, rfl, Lib.hid (by
                  have e1 : σ1.nt = τ.nt := by rw [HE2.out]
                  have e2 : σ1.ws = τ.ws := by rw [HE2.out]
                  rw [HS1.out, e1, e2]
                  exact vr_in ((H5.out.del 1).del 2)), HTN⟩
                case measure => first | (simp [intOf]; done) | (simp [intOf]; omega)
              · by_cases h4 : 4 ≤ dk
                · have he : σ1 = { τ with ws := addW τ.ws (xw.toNat, dk.toNat, p) } := HE.out.trans (if_pos ⟨rfl, h4⟩)
                  have HE2 := Lib.hid he
                  clear he
                  obtain ⟨w6, hrun, h6⟩ := LayM.putW H5.out.drew 1 mb τ.ws rfl (xw.toNat, dk.toNat, p) ⟨by show xw.toNat < 1000; omega, by show dk.toNat < 1000; omega, HDL.out.pl⟩
                  rw [keyW_int hw0 (by omega)] at hrun
                  have HRUN := Lib.hid hrun
                  have H6 := Lib.hid h6
                  clear hrun h6
                  go_wp2
                  refine wp_held_mask (fun W => W.cell? ⟨pb, 1, none⟩ = some (.map (some mb)) ∧ W.cell? ⟨t8, 0, none⟩ = some (.int .i64 xw) ∧ W.cell? ⟨t8, 2, none⟩ = some (.int .i64 dk) ∧ W.cell? ⟨t8, 3, none⟩ = some (.string (bs p))) [true, true, true, true, true, true, true, true, true, true, true, true, false, false] ?A1 (by kernel_rfl) rfl (by kernel_rfl) (by repeat' (first | (with_reducible apply tame_then) | (with_reducible apply tame_block) | (with_reducible apply tame_scope) | exact tame_gives | exact tame_body (fun _ _ h => ⟨_, h.1⟩))) ⟨p1, x0, x2, x3⟩ ?head ?tail
                  case head =>
                    intro W5 ⟨s0, s1, s2, s3⟩
                    simp only [pick]
                    go_wp2
                    exact taken
                  case tail =>
                    simp only [pick, List.map_cons, List.map_nil, Bool.not_true, Bool.not_false]
                    refine tail_step ?_
                    go_wp2
                    refine holds ⟨p1, x0, x2, x3⟩ ?_
                    refine tail_last ?_
                    go_wp2_with (first
                      | (at_mapUpdate; refine wpList_updE rfl (.tmp 65) (.tmp 74) (.const (.bool true)) _ rfl rfl rfl rfl HRUN.out ?_)
                      | fail)
                    go_roundw
                    case rel => exact ⟨j + 1, A2, c2, _, rowS AN cN a.names :: VR, NA2, NC2, by omega, by go_num, rfl, Lib.hid (by
                      have e1 : σ1.nt = τ.nt := by rw [HE2.out]
                      have e2 : σ1.ws = addW τ.ws (xw.toNat, dk.toNat, p) := by rw [HE2.out]
                      rw [HS1.out, e1, e2]
                      exact vr_in ((H6.out.del 1).del 2)), HTN⟩
                    case measure => first | (simp [intOf]; done) | (simp [intOf]; omega)
                · have he : σ1 = τ := HE.out.trans (if_neg (fun h => h4 h.2))
                  have HE2 := Lib.hid he
                  clear he
                  go_wp2
                  go_roundw
                  case rel => exact ⟨j + 1, A2, c2, _, rowS AN cN a.names :: VR, NA2, NC2, by omega, by go_num, rfl, Lib.hid (by
                    have e1 : σ1.nt = τ.nt := by rw [HE2.out]
                    have e2 : σ1.ws = τ.ws := by rw [HE2.out]
                    rw [HS1.out, e1, e2]
                    exact vr_in ((H5.out.del 1).del 2)), HTN⟩
                  case measure => first | (simp [intOf]; done) | (simp [intOf]; omega)
            · have hb0 : (a.code == 0) = false := by rw [HA1.out]; simp [hc]
              have he : (a, σ1) = ((doS σ.st ⟨dk, p, xd, dv⟩).1, ⟨(doS σ.st ⟨dk, p, xd, dv⟩).2, σ.ws, σ.nt⟩) := HSA.out.symm.trans (ask_err ⟨hw0, hw6⟩ hc)
              have HE : Hid (σ1 = ⟨(doS σ.st ⟨dk, p, xd, dv⟩).2, σ.ws, σ.nt⟩) := Lib.hid (congrArg Prod.snd he)
              clear he hc
              go_wp2
              go_roundw
              case rel => exact ⟨j + 1, A2, c2, _, rowS AN cN a.names :: VR, NA, NC, by omega, by go_num, rfl, Lib.hid (by
                have e1 : σ1.nt = σ.nt := by rw [HE.out]
                have e2 : σ1.ws = σ.ws := by rw [HE.out]
                rw [HS1.out, e1, e2]
                exact vr_in ((H4.out.del 1).del 2)), HTN⟩
              case measure => first | (simp [intOf]; done) | (simp [intOf]; omega)
        · have ha2 : a = A0 2 ∧ σ1 = σ := by
            have := HSA.out
            rw [ask_bad hw] at this
            injection this with e1 e2
            exact ⟨e1.symm, e2.symm⟩
          obtain ⟨rfl, rfl⟩ := ha2
          rcases (by omega : xw < 0 ∨ (¬ xw < 0 ∧ 6 ≤ xw)) with h1 | ⟨h1, h2⟩
          · go_wp2_with (first
              | (at_builtin
                 refine wpList_ap rfl (.tmp 32) (.tmp 34) _ rfl 35 iT _ 4 56 Tryd.underlying23 hiT hz0 hz1 hz2 rfl (by omega) w.heap.size (n := j) rfl ((HW.out.alloc _).lay.own 2 _ rfl) (B := W.heap.size + 1) (m := 1) (g := ofL (toldL none 0 (A0 2))) rfl ?hr (told_one none 0 (A0 2)) (catG (j * 4) G (toldL none 0 (A0 2))) (fun k hk => by unfold catG; rw [if_pos hk]) (fun k hk => by unfold catG; rw [if_neg (by omega), Nat.add_sub_cancel_left]) (j + 1) rfl (by unfold maxLen; omega) (by omega) (HW.out.alloc _).size ?_
                 case hr =>
                   refine cell_new W _ _ _ W.heap.size rfl (fun k hk => ?_)
                   rcases (by omega : k = 0 ∨ k = 1 ∨ k = 2 ∨ k = 3) with rfl | rfl | rfl | rfl <;> rfl
                 intro A2 c2 w4 ho hg hh
                 have H4 := Lib.hid (vr_in (((HW.out.alloc _).app 2 rfl ho hg hh).tl.lnil 9 1 (strF [])))
                 clear ho hg hh)
              | fail)
            go_roundw
            case rel => exact ⟨j + 1, A2, c2, catG (j * 4) G (toldL none 0 (A0 2)), rowS none 0 [] :: VR, NA, NC, by omega, by go_num, rfl, Lib.hid (by rw [HS1.out]; exact H4.out), Lib.hid (told_next HT.out HA.out 0 none 0 rfl)⟩
            case measure => first | (simp [intOf]; done) | (simp [intOf]; omega)
          · go_wp2_with (first
              | (at_builtin
                 refine wpList_ap rfl (.tmp 32) (.tmp 34) _ rfl 35 iT _ 4 56 Tryd.underlying23 hiT hz0 hz1 hz2 rfl (by omega) w.heap.size (n := j) rfl ((HW.out.alloc _).lay.own 2 _ rfl) (B := W.heap.size + 1) (m := 1) (g := ofL (toldL none 0 (A0 2))) rfl ?hr (told_one none 0 (A0 2)) (catG (j * 4) G (toldL none 0 (A0 2))) (fun k hk => by unfold catG; rw [if_pos hk]) (fun k hk => by unfold catG; rw [if_neg (by omega), Nat.add_sub_cancel_left]) (j + 1) rfl (by unfold maxLen; omega) (by omega) (HW.out.alloc _).size ?_
                 case hr =>
                   refine cell_new W _ _ _ W.heap.size rfl (fun k hk => ?_)
                   rcases (by omega : k = 0 ∨ k = 1 ∨ k = 2 ∨ k = 3) with rfl | rfl | rfl | rfl <;> rfl
                 intro A2 c2 w4 ho hg hh
                 have H4 := Lib.hid (vr_in (((HW.out.alloc _).app 2 rfl ho hg hh).tl.lnil 9 1 (strF [])))
                 clear ho hg hh)
              | fail)
            go_roundw
            case rel => exact ⟨j + 1, A2, c2, catG (j * 4) G (toldL none 0 (A0 2)), rowS none 0 [] :: VR, NA, NC, by omega, by go_num, rfl, Lib.hid (by rw [HS1.out]; exact H4.out), Lib.hid (told_next HT.out HA.out 0 none 0 rfl)⟩
            case measure => first | (simp [intOf]; done) | (simp [intOf]; omega)
      · obtain rfl : m = j := by omega
        have p2 := HQ.out.lay.cellB 2 rfl 2 (by omega)
        simp only [ofL_2] at p2
        go_wp2
        refine wp_text_all (by kernel_rfl) (by kernel_rfl) (by kernel_rfl) (by repeat' (first | (with_reducible apply tame_then) | (with_reducible apply tame_block) | (with_reducible apply tame_scope) | exact tame_gives | exact tame_body (fun _ _ h => ⟨_, h.1⟩))) ?_
        go_wp2
        refine headed ?_
        go_wp2
        refine bodyPost_ret (v := .tuple #[.slice AC m cC, .slice (some ⟨gn, 0, none⟩) 6 6, .int .i64 0]) (by simp [results, Tryd.results9, go_sem]) rfl ?_
        exact ⟨_, rfl, AC, cC, G, VR, gn, NA, NC, rfl, (HQ.out.drew.lay.subL (.cons _ (.cons_cons _ (.cons _ (.refl _))))), HT.out⟩
end Go.Proofs.YtfdgjbanajodfaaDoor
