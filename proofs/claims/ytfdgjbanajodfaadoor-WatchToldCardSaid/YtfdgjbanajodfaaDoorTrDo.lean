/- The walk of Do. -/
import Derived.Test.YtfdgjbanajodfaaDoorTrBuild
import Derived.Test.YtfdgjbanajodfaaDoorLayV
set_option linter.unusedVariables false
set_option linter.unusedSimpArgs false
namespace Go.Proofs.YtfdgjbanajodfaaDoor
open Go.RowKit Go.Maps Go.MapKept

def toldL (A : Option Addr) (c : Nat) (a : Ans) : List Value := [.int .i64 a.code, .string (bs a.data), .int .i64 a.ver, .slice A a.names.length c]
def toldV (A : Option Addr) (c : Nat) (a : Ans) : Value := .agg #[.int .i64 a.code, .string (bs a.data), .int .i64 a.ver, .slice A a.names.length c]
abbrev rowR (b : Nat) (l : List Value) : LRow := blk b 35 4 (ofL l)
abbrev told0 : List Value := [.int .i64 0, .string ⟨#[]⟩, .int .i64 0, .slice none 0 0]
/-- What holds of the names at any time. -/
structure TrOk (st : TS) : Prop where
  key : ∀ s ∈ st.ks, nameB s = true ∧ s.length ≤ 140737488351232
  len : st.ks.length ≤ 12
  ver : ∀ s, st.ver s ≤ 1000
structure DeedL (d : Deed) : Prop where
  pl : d.path.length ≤ 140737488351232
  dl : d.data.length ≤ 140737488351232
theorem nameB_sl {s : Str} (h : nameB s = true) : 47 ∈ s := by
  unfold nameB at h
  rw [Bool.or_eq_true, Bool.and_eq_true] at h
  rcases h with h | ⟨h, -⟩
  · have := eq_of_beq h
    rw [this]; simp
  · cases s with
    | nil => cases h
    | cons c t =>
      have h3 : ((47 : UInt8) == c && List.isPrefixOf [] t) = true := h
      rw [Bool.and_eq_true] at h3
      have h4 := eq_of_beq h3.1
      rw [← h4]; simp
abbrev PostD (tb bm : Nat) (R : List LRow) (Q : List MRow) (w0 : World) (r : Ans × TS) : Ending → World → Prop := Gives fun v w' => ∃ A c, v = toldV A c r.1 ∧ LayM w0 w' (rowS A c r.1.names :: rowT tb bm :: R) (⟨bm, TrE r.2⟩ :: Q)
theorem LayM.up3 {w0 w : World} {a b c t : LRow} {R : List LRow} {Q : List MRow} (h : LayM w0 w (a :: b :: c :: t :: R) Q) : LayM w0 w (t :: a :: b :: c :: R) Q := by
  refine h.step (h.lay.pick (fun k => if k = 0 then 3 else if k ≤ 3 then k - 1 else k) (fun i j _ _ hij => ?_) fun k _ => ?_) (.refl _)
  · split at hij <;> split at hij <;> (try split at hij) <;> (try split at hij) <;> omega
  · rcases k with _ | _ | _ | _ | k
    · rfl
    · rfl
    · rfl
    · rfl
    · show (t :: a :: b :: c :: R)[k + 4]? = (a :: b :: c :: t :: R)[if k + 4 = 0 then 3 else if k + 4 ≤ 3 then k + 4 - 1 else k + 4]?
      rw [if_neg (by omega), if_neg (by omega)]; rfl
theorem LayM.del {w0 w : World} {L : List LRow} {Q : List MRow} (m : Nat) (h : LayM w0 w L Q) : LayM w0 w (L.take m ++ L.drop (m + 1)) Q := h.step (h.lay.del m) (.refl _)
theorem LayM.dn2 {w0 w : World} {t a : LRow} {R : List LRow} {Q : List MRow} (h : LayM w0 w (t :: a :: R) Q) : LayM w0 w (t :: R) Q := h.del 1
theorem LayM.dn3 {w0 w : World} {t u a : LRow} {R : List LRow} {Q : List MRow} (h : LayM w0 w (t :: u :: a :: R) Q) : LayM w0 w (t :: u :: R) Q := h.del 2
theorem bs_nil : bs [] = ⟨#[]⟩ := rfl
theorem TrOk.bel {st : TS} (h : TrOk st) : ∀ s ∈ st.ks, 47 ∈ s ∧ s.length ≤ 140737488351232 := fun s hs => ⟨nameB_sl (h.key s hs).1, (h.key s hs).2⟩
/-- What the loads of the drawn statements read. -/
def VlS (tb bm q qn : Nat) (es : Array MapEntry) (c : Nat) (p x : Str) (v : Nat) (w : World) : Prop := PtS tb bm q es c p x w ∧ w.cell? ⟨qn, 1, none⟩ = some (.int .i64 (v : Nat))
def VlN (q qn : Nat) (p : Str) (v : Nat) (w : World) : Prop := w.cell? ⟨q, 1, none⟩ = some (.string (bs p)) ∧ w.cell? ⟨qn, 1, none⟩ = some (.int .i64 (v : Nat))
set_option maxRecDepth 100000 in
set_option maxHeartbeats 6400000 in
theorem do_any (tb bm : Nat) (R : List LRow) (Q : List MRow) (w0 w : World) (st : TS) (d : Deed) (hd : DeedL d) (hT : TrOk st) (h : LayM w0 w (rowT tb bm :: R) (⟨bm, TrE st⟩ :: Q)) :
    Calls Tryd.prog 20 #[.pointer (some ⟨tb, 0, none⟩), .agg #[.int .i64 d.kind, .string (bs d.path), .string (bs d.data), .int .i64 d.version]] w (PostD tb bm R Q w0 (doS st d)) := by
  obtain ⟨k, p, x, dv⟩ := d
  obtain ⟨r, hr⟩ : ∃ r, r = doS st ⟨k, p, x, dv⟩ := ⟨_, rfl⟩
  rw [← hr]
  have HRR := Lib.hid hr
  have HD := Lib.hid hd
  have HT := Lib.hid hT
  obtain ⟨es, c, hE, h⟩ := h.pin
  have HE := Lib.hid hE
  have HM := Lib.hid ((h.newB (cellsD ⟨k, p, x, dv⟩) 30 4 rfl _ rfl).newB told0 35 4 rfl (w.heap.size + 1) (by simp))
  obtain ⟨x1, v1, hxv, hk1⟩ := hE.look' (bm := bm) p hd.pl
  have HK1 := Lib.hid hk1
  have HXV := Lib.hid hxv
  obtain ⟨b1, hb1⟩ : ∃ b, decide (p ∈ st.ks) = b := ⟨_, rfl⟩
  rw [hb1] at HK1
  have HB1 := Lib.hid hb1
  obtain ⟨nb, hnb⟩ : ∃ b, nameB p = b := ⟨_, rfl⟩
  have HNB := Lib.hid hnb
  have hxs := bs_size x
  have hxl : x.length ≤ 140737488351232 := hd.dl
  clear hr hd hT h hE hk1 hb1 hxv hnb
  go_enter Tryd.func20, Tryd.ntmps20
  go_wp2
  refine at_layM (F := fun W' => Code.wp _ _ _ _ W') HM.out ?_
  intro W hW
  have HW := Lib.hid hW
  clear hW HM
  generalize w.heap.size + 1 = rt at HW ⊢
  generalize w.heap.size = q at HW ⊢
  have hs : LkS tb bm q es c p W := ⟨HW.out.lay.cellB 2 rfl 0 (by omega), HW.out.lay.cellB 1 rfl 1 (by omega), HW.out.pinned⟩
  refine wp_held_mask (LkS tb bm q es c p) [true, true, true, true, true, true, true, true, true, true, false, false, false] ?A1 (by kernel_rfl) rfl (by kernel_rfl) (by repeat' (first | (with_reducible apply tame_then) | (with_reducible apply tame_block) | (with_reducible apply tame_scope) | exact tame_gives | exact tame_body (fun _ _ h => ⟨_, h.1⟩))) hs ?head ?tail
  case head =>
    intro W5 ⟨s0, s1, s2⟩
    simp only [pick]
    go_wp2_with (first
      | (at_lookup; refine wpList_lookC rfl (.tmp 12) (.tmp 14) _ rfl rfl rfl (HK1.out _ s2) ?_)
      | fail)
    exact taken
  case tail =>
    clear hs
    simp only [pick, List.map_cons, List.map_nil, Bool.not_true, Bool.not_false]
    refine tail_step ?_
    go_wp2
    have HM2 := Lib.hid ((HW.out.newB [.string ⟨#[]⟩, .int .i64 0] 83 2 rfl _ rfl).drew)
    refine at_layM (F := fun W' => Holds _ _ _ _ _ _ _ W') HM2.out ?_
    intro W2 hW2
    have HW2 := Lib.hid hW2
    clear hW2 HM2 HW
    generalize W.heap.size = qn at HW2 ⊢
    refine holds ⟨HW2.out.lay.cellB 3 rfl 0 (by omega), HW2.out.lay.cellB 2 rfl 1 (by omega), HW2.out.pinned⟩ ?_
    refine tail_step ?_
    have n0 := HW2.out.lay.cellB 0 rfl 0 (by omega)
    have n1 := HW2.out.lay.cellB 0 rfl 1 (by omega)
    have z0 := HW2.out.lay.frz 0 rfl (by omega) 0
    have z1 := HW2.out.lay.frz 0 rfl (by omega) 1
    unfold nodeV at *
    go_wp2
    have HM3 := Lib.hid ((HW2.out.fld 0 0 (.string (bs x1)) rfl (by omega) (by simp)).fld 0 1 (.int .i64 (v1 : Nat)) rfl (by omega) (by simp))
    refine at_layM (F := fun W' => Holds _ _ _ _ _ _ _ W') HM3.out ?_
    intro W3 hW3
    have HW3 := Lib.hid hW3
    clear hW3 HM3 HW2 n0 n1 z0 z1
    refine holds ⟨HW3.out.lay.cellB 3 rfl 0 (by omega), HW3.out.lay.cellB 2 rfl 1 (by omega), HW3.out.pinned⟩ ?_
    refine tail_last ?_
    have r0 := HW3.out.lay.cellB 1 rfl 0 (by omega)
    have r1 := HW3.out.lay.cellB 1 rfl 1 (by omega)
    have r2 := HW3.out.lay.cellB 1 rfl 2 (by omega)
    have r3 := HW3.out.lay.cellB 1 rfl 3 (by omega)
    have y0 := HW3.out.lay.frz 1 rfl (by omega) 0
    have y1 := HW3.out.lay.frz 1 rfl (by omega) 1
    have y2 := HW3.out.lay.frz 1 rfl (by omega) 2
    have y3 := HW3.out.lay.frz 1 rfl (by omega) 3
    have q0 := HW3.out.lay.cellB 2 rfl 0 (by omega)
    have q1 := HW3.out.lay.cellB 2 rfl 1 (by omega)
    have q2 := HW3.out.lay.cellB 2 rfl 2 (by omega)
    have q3 := HW3.out.lay.cellB 2 rfl 3 (by omega)
    have n0 := HW3.out.lay.cellB 0 rfl 0 (by omega)
    have n1 := HW3.out.lay.cellB 0 rfl 1 (by omega)
    simp only [List.set_cons_zero, List.set_cons_succ, ofL_0, ofL_1, ofL_2, ofL_3] at q0 q1 q2 q3 n0 n1
    by_cases hk : k < 1 ∨ 5 < k
    · obtain rfl : r = (A0 6, st) := by rw [HRR.out]; exact if_pos hk
      have hkb : (k == 1) = false := by simp; omega
      have hkb2 : (k == 2) = false := by simp; omega
      rcases hk with hk | hk
      · go_wp2
        have HF := Lib.hid ((((HW3.out.fld 1 0 (.int .i64 6) rfl (by omega) (by simp)).fld 1 1 (.string ⟨#[]⟩) rfl (by omega) (by simp)).fld 1 2 (.int .i64 0) rfl (by omega) (by simp)).fld 1 3 (.slice none 0 0) rfl (by omega) (by simp))
        have f0 := HF.out.lay.cellB 1 rfl 0 (by omega)
        have f1 := HF.out.lay.cellB 1 rfl 1 (by omega)
        have f2 := HF.out.lay.cellB 1 rfl 2 (by omega)
        have f3 := HF.out.lay.cellB 1 rfl 3 (by omega)
        simp only [List.set_cons_zero, List.set_cons_succ, ofL_0, ofL_1, ofL_2, ofL_3] at f0 f1 f2 f3
        refine bodyPost_ret (v := toldV none 0 (A0 6)) (by simp [results, Tryd.results20, go_sem, f0, f1, f2, f3, toldV, A0, bs_nil, srt_len]) rfl ?_
        exact ⟨_, rfl, none, 0, rfl, (HF.out.tl.tl.tl.unpin HE.out).lnil _ _ _⟩
      · have hk' : ¬ k < 1 := by omega
        go_wp2
        have HF := Lib.hid ((((HW3.out.fld 1 0 (.int .i64 6) rfl (by omega) (by simp)).fld 1 1 (.string ⟨#[]⟩) rfl (by omega) (by simp)).fld 1 2 (.int .i64 0) rfl (by omega) (by simp)).fld 1 3 (.slice none 0 0) rfl (by omega) (by simp))
        have f0 := HF.out.lay.cellB 1 rfl 0 (by omega)
        have f1 := HF.out.lay.cellB 1 rfl 1 (by omega)
        have f2 := HF.out.lay.cellB 1 rfl 2 (by omega)
        have f3 := HF.out.lay.cellB 1 rfl 3 (by omega)
        simp only [List.set_cons_zero, List.set_cons_succ, ofL_0, ofL_1, ofL_2, ofL_3] at f0 f1 f2 f3
        refine bodyPost_ret (v := toldV none 0 (A0 6)) (by simp [results, Tryd.results20, go_sem, f0, f1, f2, f3, toldV, A0, bs_nil, srt_len]) rfl ?_
        exact ⟨_, rfl, none, 0, rfl, (HF.out.tl.tl.tl.unpin HE.out).lnil _ _ _⟩
    · have HR1 := Lib.hid (HRR.out.trans (if_neg hk))
      clear HRR
      cases nb
      · obtain rfl : r = (A0 3, st) := by rw [HR1.out]; exact if_pos HNB.out
        rcases (by omega : k = 1 ∨ k = 2 ∨ k = 3 ∨ k = 4 ∨ k = 5) with rfl | rfl | rfl | rfl | rfl
        all_goals
          clear hk HR1
          go_wp2_with (go_at_call 24
                       refine (name_any p W3 HD.out.pl).mono ?_
                       rintro e w4 ⟨rfl, hb4⟩
                       have HW4 := Lib.hid (HW3.out.keep hb4)
                       rw [HNB.out]
                       clear hb4 q0 q1 q2 q3 n0 n1 r0 r1 r2 r3 y0 y1 y2 y3
                       have r0 := HW4.out.lay.cellB 1 rfl 0 (by omega)
                       have r1 := HW4.out.lay.cellB 1 rfl 1 (by omega)
                       have r2 := HW4.out.lay.cellB 1 rfl 2 (by omega)
                       have r3 := HW4.out.lay.cellB 1 rfl 3 (by omega)
                       have y0 := HW4.out.lay.frz 1 rfl (by omega) 0
                       have y1 := HW4.out.lay.frz 1 rfl (by omega) 1
                       have y2 := HW4.out.lay.frz 1 rfl (by omega) 2
                       have y3 := HW4.out.lay.frz 1 rfl (by omega) 3
                       have q0 := HW4.out.lay.cellB 2 rfl 0 (by omega)
                       have q1 := HW4.out.lay.cellB 2 rfl 1 (by omega)
                       have q2 := HW4.out.lay.cellB 2 rfl 2 (by omega)
                       have q3 := HW4.out.lay.cellB 2 rfl 3 (by omega)
                       have n0 := HW4.out.lay.cellB 0 rfl 0 (by omega)
                       have n1 := HW4.out.lay.cellB 0 rfl 1 (by omega)
                       simp only [List.set_cons_zero, List.set_cons_succ, ofL_0, ofL_1, ofL_2, ofL_3] at q0 q1 q2 q3 n0 n1
                       skip)
          have HF := Lib.hid ((((HW4.out.fld 1 0 (.int .i64 3) rfl (by omega) (by simp)).fld 1 1 (.string ⟨#[]⟩) rfl (by omega) (by simp)).fld 1 2 (.int .i64 0) rfl (by omega) (by simp)).fld 1 3 (.slice none 0 0) rfl (by omega) (by simp))
          have f0 := HF.out.lay.cellB 1 rfl 0 (by omega)
          have f1 := HF.out.lay.cellB 1 rfl 1 (by omega)
          have f2 := HF.out.lay.cellB 1 rfl 2 (by omega)
          have f3 := HF.out.lay.cellB 1 rfl 3 (by omega)
          simp only [List.set_cons_zero, List.set_cons_succ, ofL_0, ofL_1, ofL_2, ofL_3] at f0 f1 f2 f3
          refine bodyPost_ret (v := toldV none 0 (A0 3)) (by simp [results, Tryd.results20, go_sem, f0, f1, f2, f3, toldV, A0, bs_nil, srt_len]) rfl ?_
          exact ⟨_, rfl, none, 0, rfl, (HF.out.tl.tl.tl.unpin HE.out).lnil _ _ _⟩
      · have hN : ¬ nameB p = false := by rw [HNB.out]; simp
        have HR2 := Lib.hid (HR1.out.trans (if_neg hN))
        have hsl := nameB_sl HNB.out
        have HSL := Lib.hid hsl
        clear HR1 hN hsl
        by_cases hp : (k = 1 ∨ k = 2) ∧ 20 < x.length
        · obtain rfl : r = (A0 1, st) := by rw [HR2.out]; exact if_pos hp
          obtain ⟨hp1, hp2⟩ := hp
          rcases hp1 with rfl | rfl
          all_goals
            clear hk HR2
            go_wp2_with (go_at_call 24
                         refine (name_any p W3 HD.out.pl).mono ?_
                         rintro e w4 ⟨rfl, hb4⟩
                         have HW4 := Lib.hid (HW3.out.keep hb4)
                         rw [HNB.out]
                         clear hb4 q0 q1 q2 q3 n0 n1 r0 r1 r2 r3 y0 y1 y2 y3
                         have r0 := HW4.out.lay.cellB 1 rfl 0 (by omega)
                         have r1 := HW4.out.lay.cellB 1 rfl 1 (by omega)
                         have r2 := HW4.out.lay.cellB 1 rfl 2 (by omega)
                         have r3 := HW4.out.lay.cellB 1 rfl 3 (by omega)
                         have y0 := HW4.out.lay.frz 1 rfl (by omega) 0
                         have y1 := HW4.out.lay.frz 1 rfl (by omega) 1
                         have y2 := HW4.out.lay.frz 1 rfl (by omega) 2
                         have y3 := HW4.out.lay.frz 1 rfl (by omega) 3
                         have q0 := HW4.out.lay.cellB 2 rfl 0 (by omega)
                         have q1 := HW4.out.lay.cellB 2 rfl 1 (by omega)
                         have q2 := HW4.out.lay.cellB 2 rfl 2 (by omega)
                         have q3 := HW4.out.lay.cellB 2 rfl 3 (by omega)
                         have n0 := HW4.out.lay.cellB 0 rfl 0 (by omega)
                         have n1 := HW4.out.lay.cellB 0 rfl 1 (by omega)
                         simp only [List.set_cons_zero, List.set_cons_succ, ofL_0, ofL_1, ofL_2, ofL_3] at q0 q1 q2 q3 n0 n1
                         skip)
            have HF := Lib.hid ((((HW4.out.fld 1 0 (.int .i64 1) rfl (by omega) (by simp)).fld 1 1 (.string ⟨#[]⟩) rfl (by omega) (by simp)).fld 1 2 (.int .i64 0) rfl (by omega) (by simp)).fld 1 3 (.slice none 0 0) rfl (by omega) (by simp))
            have f0 := HF.out.lay.cellB 1 rfl 0 (by omega)
            have f1 := HF.out.lay.cellB 1 rfl 1 (by omega)
            have f2 := HF.out.lay.cellB 1 rfl 2 (by omega)
            have f3 := HF.out.lay.cellB 1 rfl 3 (by omega)
            simp only [List.set_cons_zero, List.set_cons_succ, ofL_0, ofL_1, ofL_2, ofL_3] at f0 f1 f2 f3
            refine bodyPost_ret (v := toldV none 0 (A0 1)) (by simp [results, Tryd.results20, go_sem, f0, f1, f2, f3, toldV, A0, bs_nil, srt_len]) rfl ?_
            exact ⟨_, rfl, none, 0, rfl, (HF.out.tl.tl.tl.unpin HE.out).lnil _ _ _⟩
        · have HR3 := Lib.hid (HR2.out.trans (if_neg hp))
          clear HR2
          rcases (by omega : k = 1 ∨ k = 2 ∨ k = 3 ∨ k = 4 ∨ k = 5) with rfl | rfl | rfl | rfl | rfl
          · have hx20 : ¬ 20 < x.length := fun h => hp ⟨.inl rfl, h⟩
            obtain ⟨cd, st2, hbd⟩ : ∃ cd st2, buildS st ⟨1, p, x, dv⟩ = (cd, st2) := ⟨_, _, rfl⟩
            have HBD := Lib.hid hbd
            obtain rfl : r = (A0 cd, st2) := by rw [HR3.out, if_pos rfl, hbd]
            clear hk hp HR3 hbd
            go_wp2_with (go_at_call 24
                         refine (name_any p W3 HD.out.pl).mono ?_
                         rintro e w4 ⟨rfl, hb4⟩
                         have HW4 := Lib.hid (HW3.out.keep hb4)
                         rw [HNB.out]
                         clear hb4 q0 q1 q2 q3 n0 n1 r0 r1 r2 r3 y0 y1 y2 y3
                         have r0 := HW4.out.lay.cellB 1 rfl 0 (by omega)
                         have r1 := HW4.out.lay.cellB 1 rfl 1 (by omega)
                         have r2 := HW4.out.lay.cellB 1 rfl 2 (by omega)
                         have r3 := HW4.out.lay.cellB 1 rfl 3 (by omega)
                         have y0 := HW4.out.lay.frz 1 rfl (by omega) 0
                         have y1 := HW4.out.lay.frz 1 rfl (by omega) 1
                         have y2 := HW4.out.lay.frz 1 rfl (by omega) 2
                         have y3 := HW4.out.lay.frz 1 rfl (by omega) 3
                         have q0 := HW4.out.lay.cellB 2 rfl 0 (by omega)
                         have q1 := HW4.out.lay.cellB 2 rfl 1 (by omega)
                         have q2 := HW4.out.lay.cellB 2 rfl 2 (by omega)
                         have q3 := HW4.out.lay.cellB 2 rfl 3 (by omega)
                         have n0 := HW4.out.lay.cellB 0 rfl 0 (by omega)
                         have n1 := HW4.out.lay.cellB 0 rfl 1 (by omega)
                         simp only [List.set_cons_zero, List.set_cons_succ, ofL_0, ofL_1, ofL_2, ofL_3] at q0 q1 q2 q3 n0 n1
                         skip)
            refine (build_any tb bm _ Q w0 w4 st ⟨1, p, x, dv⟩ ⟨HSL.out, HD.out.pl, HD.out.dl⟩ HT.out.len (HW4.out.up3.unpin HE.out)).mono ?_
            rintro e w5 ⟨he, h5⟩
            rw [HBD.out] at he h5
            subst he
            have HW5 := Lib.hid h5
            clear h5 q0 q1 q2 q3 n0 n1 r0 r1 r2 r3 y0 y1 y2 y3
            have r0 := HW5.out.lay.cellB 2 rfl 0 (by omega)
            have r1 := HW5.out.lay.cellB 2 rfl 1 (by omega)
            have r2 := HW5.out.lay.cellB 2 rfl 2 (by omega)
            have r3 := HW5.out.lay.cellB 2 rfl 3 (by omega)
            have y0 := HW5.out.lay.frz 2 rfl (by omega) 0
            have y1 := HW5.out.lay.frz 2 rfl (by omega) 1
            have y2 := HW5.out.lay.frz 2 rfl (by omega) 2
            have y3 := HW5.out.lay.frz 2 rfl (by omega) 3
            go_wp2
            have HF := Lib.hid ((((HW5.out.fld 2 0 (.int .i64 cd) rfl (by omega) (by simp)).fld 2 1 (.string ⟨#[]⟩) rfl (by omega) (by simp)).fld 2 2 (.int .i64 0) rfl (by omega) (by simp)).fld 2 3 (.slice none 0 0) rfl (by omega) (by simp))
            have f0 := HF.out.lay.cellB 2 rfl 0 (by omega)
            have f1 := HF.out.lay.cellB 2 rfl 1 (by omega)
            have f2 := HF.out.lay.cellB 2 rfl 2 (by omega)
            have f3 := HF.out.lay.cellB 2 rfl 3 (by omega)
            simp only [List.set_cons_zero, List.set_cons_succ, ofL_0, ofL_1, ofL_2, ofL_3] at f0 f1 f2 f3
            refine bodyPost_ret (v := toldV none 0 (A0 cd)) (by simp [results, Tryd.results20, go_sem, f0, f1, f2, f3, toldV, A0, bs_nil, srt_len]) rfl ?_
            exact ⟨_, rfl, none, 0, rfl, HF.out.dn2.dn2.dn2.lnil _ _ _⟩
          · have hx20 : ¬ 20 < x.length := fun h => hp ⟨.inr rfl, h⟩
            have HR4 := Lib.hid ((HR3.out.trans (if_neg (show ¬ (2:Int) = 1 by decide))).trans (if_neg (fun h => absurd h.1 (show ¬ (2:Int) = 3 by decide))))
            clear hk hp HR3
            cases b1
            · obtain rfl : r = (A0 5, st) := by rw [HR4.out]; exact if_pos (of_decide_eq_false HB1.out)
              go_wp2_with (go_at_call 24
                           refine (name_any p W3 HD.out.pl).mono ?_
                           rintro e w4 ⟨rfl, hb4⟩
                           have HW4 := Lib.hid (HW3.out.keep hb4)
                           rw [HNB.out]
                           clear hb4 q0 q1 q2 q3 n0 n1 r0 r1 r2 r3 y0 y1 y2 y3
                           have r0 := HW4.out.lay.cellB 1 rfl 0 (by omega)
                           have r1 := HW4.out.lay.cellB 1 rfl 1 (by omega)
                           have r2 := HW4.out.lay.cellB 1 rfl 2 (by omega)
                           have r3 := HW4.out.lay.cellB 1 rfl 3 (by omega)
                           have y0 := HW4.out.lay.frz 1 rfl (by omega) 0
                           have y1 := HW4.out.lay.frz 1 rfl (by omega) 1
                           have y2 := HW4.out.lay.frz 1 rfl (by omega) 2
                           have y3 := HW4.out.lay.frz 1 rfl (by omega) 3
                           have q0 := HW4.out.lay.cellB 2 rfl 0 (by omega)
                           have q1 := HW4.out.lay.cellB 2 rfl 1 (by omega)
                           have q2 := HW4.out.lay.cellB 2 rfl 2 (by omega)
                           have q3 := HW4.out.lay.cellB 2 rfl 3 (by omega)
                           have n0 := HW4.out.lay.cellB 0 rfl 0 (by omega)
                           have n1 := HW4.out.lay.cellB 0 rfl 1 (by omega)
                           simp only [List.set_cons_zero, List.set_cons_succ, ofL_0, ofL_1, ofL_2, ofL_3] at q0 q1 q2 q3 n0 n1
                           skip)
              have HF := Lib.hid ((((HW4.out.fld 1 0 (.int .i64 5) rfl (by omega) (by simp)).fld 1 1 (.string ⟨#[]⟩) rfl (by omega) (by simp)).fld 1 2 (.int .i64 0) rfl (by omega) (by simp)).fld 1 3 (.slice none 0 0) rfl (by omega) (by simp))
              have f0 := HF.out.lay.cellB 1 rfl 0 (by omega)
              have f1 := HF.out.lay.cellB 1 rfl 1 (by omega)
              have f2 := HF.out.lay.cellB 1 rfl 2 (by omega)
              have f3 := HF.out.lay.cellB 1 rfl 3 (by omega)
              simp only [List.set_cons_zero, List.set_cons_succ, ofL_0, ofL_1, ofL_2, ofL_3] at f0 f1 f2 f3
              refine bodyPost_ret (v := toldV none 0 (A0 5)) (by simp [results, Tryd.results20, go_sem, f0, f1, f2, f3, toldV, A0, bs_nil, srt_len]) rfl ?_
              exact ⟨_, rfl, none, 0, rfl, (HF.out.tl.tl.tl.unpin HE.out).lnil _ _ _⟩
            · have HIN := Lib.hid (of_decide_eq_true HB1.out)
              obtain ⟨ex, ev⟩ := HXV.out HIN.out
              have hv1 : v1 ≤ 1000 := by rw [ev]; exact HT.out.ver p
              have HR5 : Hid (r = if 0 ≤ dv ∧ dv ≠ (v1 : Nat) then (A0 8, st) else (⟨0, [], ((v1 : Nat) : Int) + 1, []⟩, putS st p x (v1 + 1))) := Lib.hid (by
                rw [HR4.out, if_neg (not_not_intro HIN.out), if_neg (show ¬ (2:Int) = 4 by decide), if_neg (show ¬ (2:Int) = 5 by decide), ev]
                rfl)
              clear HR4 ex ev
              by_cases hv : 0 ≤ dv ∧ dv ≠ (v1 : Nat)
              · obtain rfl : r = (A0 8, st) := by rw [HR5.out]; exact if_pos hv
                have hvb : (dv != ((v1 : Nat) : Int)) = true := by simpa using hv.2
                have hv0 := hv.1
                clear hv HR5
                go_wp2_with (go_at_call 24
                             refine (name_any p W3 HD.out.pl).mono ?_
                             rintro e w4 ⟨rfl, hb4⟩
                             have HW4 := Lib.hid (HW3.out.keep hb4)
                             rw [HNB.out]
                             clear hb4 q0 q1 q2 q3 n0 n1 r0 r1 r2 r3 y0 y1 y2 y3
                             have r0 := HW4.out.lay.cellB 1 rfl 0 (by omega)
                             have r1 := HW4.out.lay.cellB 1 rfl 1 (by omega)
                             have r2 := HW4.out.lay.cellB 1 rfl 2 (by omega)
                             have r3 := HW4.out.lay.cellB 1 rfl 3 (by omega)
                             have y0 := HW4.out.lay.frz 1 rfl (by omega) 0
                             have y1 := HW4.out.lay.frz 1 rfl (by omega) 1
                             have y2 := HW4.out.lay.frz 1 rfl (by omega) 2
                             have y3 := HW4.out.lay.frz 1 rfl (by omega) 3
                             have q0 := HW4.out.lay.cellB 2 rfl 0 (by omega)
                             have q1 := HW4.out.lay.cellB 2 rfl 1 (by omega)
                             have q2 := HW4.out.lay.cellB 2 rfl 2 (by omega)
                             have q3 := HW4.out.lay.cellB 2 rfl 3 (by omega)
                             have n0 := HW4.out.lay.cellB 0 rfl 0 (by omega)
                             have n1 := HW4.out.lay.cellB 0 rfl 1 (by omega)
                             simp only [List.set_cons_zero, List.set_cons_succ, ofL_0, ofL_1, ofL_2, ofL_3] at q0 q1 q2 q3 n0 n1
                             skip)
                have HF := Lib.hid ((((HW4.out.fld 1 0 (.int .i64 8) rfl (by omega) (by simp)).fld 1 1 (.string ⟨#[]⟩) rfl (by omega) (by simp)).fld 1 2 (.int .i64 0) rfl (by omega) (by simp)).fld 1 3 (.slice none 0 0) rfl (by omega) (by simp))
                have f0 := HF.out.lay.cellB 1 rfl 0 (by omega)
                have f1 := HF.out.lay.cellB 1 rfl 1 (by omega)
                have f2 := HF.out.lay.cellB 1 rfl 2 (by omega)
                have f3 := HF.out.lay.cellB 1 rfl 3 (by omega)
                simp only [List.set_cons_zero, List.set_cons_succ, ofL_0, ofL_1, ofL_2, ofL_3] at f0 f1 f2 f3
                refine bodyPost_ret (v := toldV none 0 (A0 8)) (by simp [results, Tryd.results20, go_sem, f0, f1, f2, f3, toldV, A0, bs_nil, srt_len]) rfl ?_
                exact ⟨_, rfl, none, 0, rfl, (HF.out.tl.tl.tl.unpin HE.out).lnil _ _ _⟩
              · obtain rfl : r = (⟨0, [], ((v1 : Nat) : Int) + 1, []⟩, putS st p x (v1 + 1)) := by rw [HR5.out]; exact if_neg hv
                clear HR5
                obtain ⟨vb, hvb⟩ : ∃ b, (dv != ((v1 : Nat) : Int)) = b := ⟨_, rfl⟩
                have hvc : dv < 0 ∨ 0 ≤ dv ∧ vb = false := by
                  rcases Int.lt_or_le dv 0 with h1 | h1
                  · exact .inl h1
                  · refine .inr ⟨h1, ?_⟩
                    have : dv = ((v1 : Nat) : Int) := Classical.byContradiction fun h2 => hv ⟨h1, h2⟩
                    rw [← hvb, this]; simp
                clear hv
                rcases hvc with hv0 | ⟨hv0, rfl⟩
                · go_wp2_with (go_at_call 24
                               refine (name_any p W3 HD.out.pl).mono ?_
                               rintro e w4 ⟨rfl, hb4⟩
                               have HW4 := Lib.hid (HW3.out.keep hb4)
                               rw [HNB.out]
                               clear hb4 q0 q1 q2 q3 n0 n1 r0 r1 r2 r3 y0 y1 y2 y3
                               have r0 := HW4.out.lay.cellB 1 rfl 0 (by omega)
                               have r1 := HW4.out.lay.cellB 1 rfl 1 (by omega)
                               have r2 := HW4.out.lay.cellB 1 rfl 2 (by omega)
                               have r3 := HW4.out.lay.cellB 1 rfl 3 (by omega)
                               have y0 := HW4.out.lay.frz 1 rfl (by omega) 0
                               have y1 := HW4.out.lay.frz 1 rfl (by omega) 1
                               have y2 := HW4.out.lay.frz 1 rfl (by omega) 2
                               have y3 := HW4.out.lay.frz 1 rfl (by omega) 3
                               have q0 := HW4.out.lay.cellB 2 rfl 0 (by omega)
                               have q1 := HW4.out.lay.cellB 2 rfl 1 (by omega)
                               have q2 := HW4.out.lay.cellB 2 rfl 2 (by omega)
                               have q3 := HW4.out.lay.cellB 2 rfl 3 (by omega)
                               have n0 := HW4.out.lay.cellB 0 rfl 0 (by omega)
                               have n1 := HW4.out.lay.cellB 0 rfl 1 (by omega)
                               simp only [List.set_cons_zero, List.set_cons_succ, ofL_0, ofL_1, ofL_2, ofL_3] at q0 q1 q2 q3 n0 n1
                               skip)
                  have hs : VlS tb bm q qn es c p x v1 w4 := ⟨⟨⟨HW4.out.lay.cellB 3 rfl 0 (by omega), HW4.out.lay.cellB 2 rfl 1 (by omega), HW4.out.pinned⟩, HW4.out.lay.cellB 2 rfl 2 (by omega)⟩, HW4.out.lay.cellB 0 rfl 1 (by omega)⟩
                  clear q0 q1 q2 q3 n0 n1 r0 r1 r2 r3 y0 y1 y2 y3
                  refine wp_held_mask (VlS tb bm q qn es c p x v1) [true, true, true, true, true, true, true, true, true, true, true, false, false] ?B1 (by kernel_rfl) rfl (by kernel_rfl) (by repeat' (first | (with_reducible apply tame_then) | (with_reducible apply tame_block) | (with_reducible apply tame_scope) | exact tame_gives | exact tame_body (fun _ _ h => ⟨_, h.1⟩))) hs ?B1h ?B1t
                  case B1h =>
                    intro W6 ⟨⟨⟨s0, s1, s2⟩, s3⟩, s4⟩
                    simp only [pick]
                    go_wp2
                    exact taken
                  case B1t =>
                    simp only [pick, List.map_cons, List.map_nil, Bool.not_true, Bool.not_false]
                    refine tail_step ?_
                    go_wp2
                    refine holds hs ?_
                    refine tail_last ?_
                    obtain ⟨es', c', hrun, hE'⟩ := HE.out.put (b := bm) (w := w4.drew) HW4.out.drew.pinned p x (v1 + 1) HD.out.pl
                    have HRUN := Lib.hid hrun
                    have HM9 := Lib.hid (HW4.out.drew.setM 0 rfl es' c' (TrE (putS st p x (v1 + 1))) hE')
                    clear hE' hrun hs
                    have r0 := HM9.out.lay.cellB 1 rfl 0 (by omega)
                    have r1 := HM9.out.lay.cellB 1 rfl 1 (by omega)
                    have r2 := HM9.out.lay.cellB 1 rfl 2 (by omega)
                    have r3 := HM9.out.lay.cellB 1 rfl 3 (by omega)
                    have y0 := HM9.out.lay.frz 1 rfl (by omega) 0
                    have y1 := HM9.out.lay.frz 1 rfl (by omega) 1
                    have y2 := HM9.out.lay.frz 1 rfl (by omega) 2
                    have y3 := HM9.out.lay.frz 1 rfl (by omega) 3
                    have n1 := HM9.out.lay.cellB 0 rfl 1 (by omega)
                    simp only [List.set_cons_zero, List.set_cons_succ, ofL_0, ofL_1] at n1
                    go_wp2_with (first
                      | (at_mapUpdate; refine wpList_updE rfl (.tmp 112) (.tmp 114) (.tmp 120) _ rfl rfl rfl rfl HRUN.out ?_)
                      | fail)
                    have HF := Lib.hid ((((HM9.out.fld 1 0 (.int .i64 0) rfl (by omega) (by simp)).fld 1 1 (.string ⟨#[]⟩) rfl (by omega) (by simp)).fld 1 2 (.int .i64 (((v1 : Nat) : Int) + 1)) rfl (by omega) (by simp)).fld 1 3 (.slice none 0 0) rfl (by omega) (by simp))
                    have f0 := HF.out.lay.cellB 1 rfl 0 (by omega)
                    have f1 := HF.out.lay.cellB 1 rfl 1 (by omega)
                    have f2 := HF.out.lay.cellB 1 rfl 2 (by omega)
                    have f3 := HF.out.lay.cellB 1 rfl 3 (by omega)
                    simp only [List.set_cons_zero, List.set_cons_succ, ofL_0, ofL_1, ofL_2, ofL_3] at f0 f1 f2 f3
                    refine bodyPost_ret (v := toldV none 0 (⟨0, [], ((v1 : Nat) : Int) + 1, []⟩ : Ans)) (by simp [results, Tryd.results20, go_sem, f0, f1, f2, f3, toldV, A0, bs_nil, srt_len]) rfl ?_
                    exact ⟨_, rfl, none, 0, rfl, HF.out.tl.tl.tl.lnil _ _ _⟩
                · go_wp2_with (go_at_call 24
                               refine (name_any p W3 HD.out.pl).mono ?_
                               rintro e w4 ⟨rfl, hb4⟩
                               have HW4 := Lib.hid (HW3.out.keep hb4)
                               rw [HNB.out]
                               clear hb4 q0 q1 q2 q3 n0 n1 r0 r1 r2 r3 y0 y1 y2 y3
                               have r0 := HW4.out.lay.cellB 1 rfl 0 (by omega)
                               have r1 := HW4.out.lay.cellB 1 rfl 1 (by omega)
                               have r2 := HW4.out.lay.cellB 1 rfl 2 (by omega)
                               have r3 := HW4.out.lay.cellB 1 rfl 3 (by omega)
                               have y0 := HW4.out.lay.frz 1 rfl (by omega) 0
                               have y1 := HW4.out.lay.frz 1 rfl (by omega) 1
                               have y2 := HW4.out.lay.frz 1 rfl (by omega) 2
                               have y3 := HW4.out.lay.frz 1 rfl (by omega) 3
                               have q0 := HW4.out.lay.cellB 2 rfl 0 (by omega)
                               have q1 := HW4.out.lay.cellB 2 rfl 1 (by omega)
                               have q2 := HW4.out.lay.cellB 2 rfl 2 (by omega)
                               have q3 := HW4.out.lay.cellB 2 rfl 3 (by omega)
                               have n0 := HW4.out.lay.cellB 0 rfl 0 (by omega)
                               have n1 := HW4.out.lay.cellB 0 rfl 1 (by omega)
                               simp only [List.set_cons_zero, List.set_cons_succ, ofL_0, ofL_1, ofL_2, ofL_3] at q0 q1 q2 q3 n0 n1
                               skip)
                  have hs : VlS tb bm q qn es c p x v1 w4 := ⟨⟨⟨HW4.out.lay.cellB 3 rfl 0 (by omega), HW4.out.lay.cellB 2 rfl 1 (by omega), HW4.out.pinned⟩, HW4.out.lay.cellB 2 rfl 2 (by omega)⟩, HW4.out.lay.cellB 0 rfl 1 (by omega)⟩
                  clear q0 q1 q2 q3 n0 n1 r0 r1 r2 r3 y0 y1 y2 y3
                  refine wp_held_mask (VlS tb bm q qn es c p x v1) [true, true, true, true, true, true, true, true, true, true, true, false, false] ?B2 (by kernel_rfl) rfl (by kernel_rfl) (by repeat' (first | (with_reducible apply tame_then) | (with_reducible apply tame_block) | (with_reducible apply tame_scope) | exact tame_gives | exact tame_body (fun _ _ h => ⟨_, h.1⟩))) hs ?B2h ?B2t
                  case B2h =>
                    intro W6 ⟨⟨⟨s0, s1, s2⟩, s3⟩, s4⟩
                    simp only [pick]
                    go_wp2
                    exact taken
                  case B2t =>
                    simp only [pick, List.map_cons, List.map_nil, Bool.not_true, Bool.not_false]
                    refine tail_step ?_
                    go_wp2
                    refine holds hs ?_
                    refine tail_last ?_
                    obtain ⟨es', c', hrun, hE'⟩ := HE.out.put (b := bm) (w := w4.drew) HW4.out.drew.pinned p x (v1 + 1) HD.out.pl
                    have HRUN := Lib.hid hrun
                    have HM9 := Lib.hid (HW4.out.drew.setM 0 rfl es' c' (TrE (putS st p x (v1 + 1))) hE')
                    clear hE' hrun hs
                    have r0 := HM9.out.lay.cellB 1 rfl 0 (by omega)
                    have r1 := HM9.out.lay.cellB 1 rfl 1 (by omega)
                    have r2 := HM9.out.lay.cellB 1 rfl 2 (by omega)
                    have r3 := HM9.out.lay.cellB 1 rfl 3 (by omega)
                    have y0 := HM9.out.lay.frz 1 rfl (by omega) 0
                    have y1 := HM9.out.lay.frz 1 rfl (by omega) 1
                    have y2 := HM9.out.lay.frz 1 rfl (by omega) 2
                    have y3 := HM9.out.lay.frz 1 rfl (by omega) 3
                    have n1 := HM9.out.lay.cellB 0 rfl 1 (by omega)
                    simp only [List.set_cons_zero, List.set_cons_succ, ofL_0, ofL_1] at n1
                    go_wp2_with (first
                      | (at_mapUpdate; refine wpList_updE rfl (.tmp 112) (.tmp 114) (.tmp 120) _ rfl rfl rfl rfl HRUN.out ?_)
                      | fail)
                    have HF := Lib.hid ((((HM9.out.fld 1 0 (.int .i64 0) rfl (by omega) (by simp)).fld 1 1 (.string ⟨#[]⟩) rfl (by omega) (by simp)).fld 1 2 (.int .i64 (((v1 : Nat) : Int) + 1)) rfl (by omega) (by simp)).fld 1 3 (.slice none 0 0) rfl (by omega) (by simp))
                    have f0 := HF.out.lay.cellB 1 rfl 0 (by omega)
                    have f1 := HF.out.lay.cellB 1 rfl 1 (by omega)
                    have f2 := HF.out.lay.cellB 1 rfl 2 (by omega)
                    have f3 := HF.out.lay.cellB 1 rfl 3 (by omega)
                    simp only [List.set_cons_zero, List.set_cons_succ, ofL_0, ofL_1, ofL_2, ofL_3] at f0 f1 f2 f3
                    refine bodyPost_ret (v := toldV none 0 (⟨0, [], ((v1 : Nat) : Int) + 1, []⟩ : Ans)) (by simp [results, Tryd.results20, go_sem, f0, f1, f2, f3, toldV, A0, bs_nil, srt_len]) rfl ?_
                    exact ⟨_, rfl, none, 0, rfl, HF.out.tl.tl.tl.lnil _ _ _⟩
          · have HR4 := Lib.hid (HR3.out.trans (if_neg (show ¬ (3:Int) = 1 by decide)))
            clear hk hp HR3
            obtain ⟨pe, hpe⟩ : ∃ b, ((bs p).toList == [47]) = b := ⟨_, rfl⟩
            cases pe
            · have HR5 := Lib.hid (HR4.out.trans (if_neg (fun h => by have h2 : p = [47] := h.2; rw [bs_toList, h2] at hpe; cases hpe)))
              clear HR4
              cases b1
              · obtain rfl : r = (A0 5, st) := by rw [HR5.out]; exact if_pos (of_decide_eq_false HB1.out)
                clear HR5
                go_wp2_with (go_at_call 24
                             refine (name_any p W3 HD.out.pl).mono ?_
                             rintro e w4 ⟨rfl, hb4⟩
                             have HW4 := Lib.hid (HW3.out.keep hb4)
                             rw [HNB.out]
                             clear hb4 q0 q1 q2 q3 n0 n1 r0 r1 r2 r3 y0 y1 y2 y3
                             have r0 := HW4.out.lay.cellB 1 rfl 0 (by omega)
                             have r1 := HW4.out.lay.cellB 1 rfl 1 (by omega)
                             have r2 := HW4.out.lay.cellB 1 rfl 2 (by omega)
                             have r3 := HW4.out.lay.cellB 1 rfl 3 (by omega)
                             have y0 := HW4.out.lay.frz 1 rfl (by omega) 0
                             have y1 := HW4.out.lay.frz 1 rfl (by omega) 1
                             have y2 := HW4.out.lay.frz 1 rfl (by omega) 2
                             have y3 := HW4.out.lay.frz 1 rfl (by omega) 3
                             have q0 := HW4.out.lay.cellB 2 rfl 0 (by omega)
                             have q1 := HW4.out.lay.cellB 2 rfl 1 (by omega)
                             have q2 := HW4.out.lay.cellB 2 rfl 2 (by omega)
                             have q3 := HW4.out.lay.cellB 2 rfl 3 (by omega)
                             have n0 := HW4.out.lay.cellB 0 rfl 0 (by omega)
                             have n1 := HW4.out.lay.cellB 0 rfl 1 (by omega)
                             simp only [List.set_cons_zero, List.set_cons_succ, ofL_0, ofL_1, ofL_2, ofL_3] at q0 q1 q2 q3 n0 n1
                             skip)
                have HF := Lib.hid ((((HW4.out.fld 1 0 (.int .i64 5) rfl (by omega) (by simp)).fld 1 1 (.string ⟨#[]⟩) rfl (by omega) (by simp)).fld 1 2 (.int .i64 0) rfl (by omega) (by simp)).fld 1 3 (.slice none 0 0) rfl (by omega) (by simp))
                have f0 := HF.out.lay.cellB 1 rfl 0 (by omega)
                have f1 := HF.out.lay.cellB 1 rfl 1 (by omega)
                have f2 := HF.out.lay.cellB 1 rfl 2 (by omega)
                have f3 := HF.out.lay.cellB 1 rfl 3 (by omega)
                simp only [List.set_cons_zero, List.set_cons_succ, ofL_0, ofL_1, ofL_2, ofL_3] at f0 f1 f2 f3
                refine bodyPost_ret (v := toldV none 0 (A0 5)) (by simp [results, Tryd.results20, go_sem, f0, f1, f2, f3, toldV, A0, bs_nil, srt_len]) rfl ?_
                exact ⟨_, rfl, none, 0, rfl, (HF.out.tl.tl.tl.unpin HE.out).lnil _ _ _⟩
              · have HIN := Lib.hid (of_decide_eq_true HB1.out)
                obtain ⟨ex, ev⟩ := HXV.out HIN.out
                have hv1 : v1 ≤ 1000 := by rw [ev]; exact HT.out.ver p
                have HR7 : Hid (r = if 0 ≤ dv ∧ dv ≠ (v1 : Nat) then (A0 8, st) else if partsOf st.ks p ≠ [] then (A0 7, st) else (A0 0, dropS st p)) := Lib.hid (by
                  rw [HR5.out, if_neg (not_not_intro HIN.out), if_neg (show ¬ (3:Int) = 4 by decide), if_neg (show ¬ (3:Int) = 5 by decide), if_neg (show ¬ (3:Int) = 2 by decide), ev])
                clear HR5 ex ev
                by_cases hv : 0 ≤ dv ∧ dv ≠ (v1 : Nat)
                · obtain rfl : r = (A0 8, st) := by rw [HR7.out]; exact if_pos hv
                  have hvb : (dv != ((v1 : Nat) : Int)) = true := by simpa using hv.2
                  have hv0 := hv.1
                  clear hv HR7
                  go_wp2_with (go_at_call 24
                               refine (name_any p W3 HD.out.pl).mono ?_
                               rintro e w4 ⟨rfl, hb4⟩
                               have HW4 := Lib.hid (HW3.out.keep hb4)
                               rw [HNB.out]
                               clear hb4 q0 q1 q2 q3 n0 n1 r0 r1 r2 r3 y0 y1 y2 y3
                               have r0 := HW4.out.lay.cellB 1 rfl 0 (by omega)
                               have r1 := HW4.out.lay.cellB 1 rfl 1 (by omega)
                               have r2 := HW4.out.lay.cellB 1 rfl 2 (by omega)
                               have r3 := HW4.out.lay.cellB 1 rfl 3 (by omega)
                               have y0 := HW4.out.lay.frz 1 rfl (by omega) 0
                               have y1 := HW4.out.lay.frz 1 rfl (by omega) 1
                               have y2 := HW4.out.lay.frz 1 rfl (by omega) 2
                               have y3 := HW4.out.lay.frz 1 rfl (by omega) 3
                               have q0 := HW4.out.lay.cellB 2 rfl 0 (by omega)
                               have q1 := HW4.out.lay.cellB 2 rfl 1 (by omega)
                               have q2 := HW4.out.lay.cellB 2 rfl 2 (by omega)
                               have q3 := HW4.out.lay.cellB 2 rfl 3 (by omega)
                               have n0 := HW4.out.lay.cellB 0 rfl 0 (by omega)
                               have n1 := HW4.out.lay.cellB 0 rfl 1 (by omega)
                               simp only [List.set_cons_zero, List.set_cons_succ, ofL_0, ofL_1, ofL_2, ofL_3] at q0 q1 q2 q3 n0 n1
                               skip)
                  have HF := Lib.hid ((((HW4.out.fld 1 0 (.int .i64 8) rfl (by omega) (by simp)).fld 1 1 (.string ⟨#[]⟩) rfl (by omega) (by simp)).fld 1 2 (.int .i64 0) rfl (by omega) (by simp)).fld 1 3 (.slice none 0 0) rfl (by omega) (by simp))
                  have f0 := HF.out.lay.cellB 1 rfl 0 (by omega)
                  have f1 := HF.out.lay.cellB 1 rfl 1 (by omega)
                  have f2 := HF.out.lay.cellB 1 rfl 2 (by omega)
                  have f3 := HF.out.lay.cellB 1 rfl 3 (by omega)
                  simp only [List.set_cons_zero, List.set_cons_succ, ofL_0, ofL_1, ofL_2, ofL_3] at f0 f1 f2 f3
                  refine bodyPost_ret (v := toldV none 0 (A0 8)) (by simp [results, Tryd.results20, go_sem, f0, f1, f2, f3, toldV, A0, bs_nil, srt_len]) rfl ?_
                  exact ⟨_, rfl, none, 0, rfl, (HF.out.tl.tl.tl.unpin HE.out).lnil _ _ _⟩
                · have HR6 := Lib.hid (HR7.out.trans (if_neg hv))
                  clear HR7
                  obtain ⟨vb, hvb⟩ : ∃ b, (dv != ((v1 : Nat) : Int)) = b := ⟨_, rfl⟩
                  have hvc : dv < 0 ∨ 0 ≤ dv ∧ vb = false := by
                    rcases Int.lt_or_le dv 0 with h1 | h1
                    · exact .inl h1
                    · refine .inr ⟨h1, ?_⟩
                      have : dv = ((v1 : Nat) : Int) := Classical.byContradiction fun h2 => hv ⟨h1, h2⟩
                      rw [← hvb, this]; simp
                  clear hv
                  rcases hvc with hv0 | ⟨hv0, rfl⟩
                  · go_wp2_with (go_at_call 24
                                 refine (name_any p W3 HD.out.pl).mono ?_
                                 rintro e w4 ⟨rfl, hb4⟩
                                 have HW4 := Lib.hid (HW3.out.keep hb4)
                                 rw [HNB.out]
                                 clear hb4 q0 q1 q2 q3 n0 n1 r0 r1 r2 r3 y0 y1 y2 y3
                                 have r0 := HW4.out.lay.cellB 1 rfl 0 (by omega)
                                 have r1 := HW4.out.lay.cellB 1 rfl 1 (by omega)
                                 have r2 := HW4.out.lay.cellB 1 rfl 2 (by omega)
                                 have r3 := HW4.out.lay.cellB 1 rfl 3 (by omega)
                                 have y0 := HW4.out.lay.frz 1 rfl (by omega) 0
                                 have y1 := HW4.out.lay.frz 1 rfl (by omega) 1
                                 have y2 := HW4.out.lay.frz 1 rfl (by omega) 2
                                 have y3 := HW4.out.lay.frz 1 rfl (by omega) 3
                                 have q0 := HW4.out.lay.cellB 2 rfl 0 (by omega)
                                 have q1 := HW4.out.lay.cellB 2 rfl 1 (by omega)
                                 have q2 := HW4.out.lay.cellB 2 rfl 2 (by omega)
                                 have q3 := HW4.out.lay.cellB 2 rfl 3 (by omega)
                                 have n0 := HW4.out.lay.cellB 0 rfl 0 (by omega)
                                 have n1 := HW4.out.lay.cellB 0 rfl 1 (by omega)
                                 simp only [List.set_cons_zero, List.set_cons_succ, ofL_0, ofL_1, ofL_2, ofL_3] at q0 q1 q2 q3 n0 n1
                                 skip)
                    refine (below_any tb bm _ Q w0 w4 st p HT.out.bel HT.out.len (HW4.out.up3.unpin HE.out)).mono ?_
                    rintro e w5 ⟨A, cA, rfl, h5⟩
                    have HW5 := Lib.hid h5.tl
                    clear h5 q0 q1 q2 q3 n0 n1 r0 r1 r2 r3 y0 y1 y2 y3
                    obtain ⟨n, hn⟩ : ∃ n, (partsOf st.ks p).length = n := ⟨_, rfl⟩
                    rw [hn]
                    have HNN := Lib.hid hn
                    clear hn
                    rcases Nat.eq_zero_or_pos n with rfl | hn0
                    · have hz : partsOf st.ks p = [] := List.eq_nil_of_length_eq_zero HNN.out
                      obtain rfl : r = (A0 0, dropS st p) := by rw [HR6.out]; exact if_neg (not_not_intro hz)
                      clear HR6 hz
                      go_wp2
                      obtain ⟨es5, c5, hE5, h6⟩ := HW5.out.pin
                      have HW6 := Lib.hid h6.drew
                      obtain ⟨es', hrun, hE'⟩ := hE5.drop HW6.out.pinned p HD.out.pl HIN.out
                      have HRUN := Lib.hid hrun
                      have HM9 := Lib.hid (HW6.out.setM 0 rfl es' c5 (TrE (dropS st p)) hE')
                      clear h6 hE5 hE' hrun
                      have t0 := HW6.out.lay.cellB 0 rfl 0 (by omega)
                      have q1 := HW6.out.lay.cellB 3 rfl 1 (by omega)
                      simp only [List.set_cons_zero, List.set_cons_succ, ofL_0, ofL_1] at q1 t0
                      refine wp_text 6 (by kernel_rfl) (by kernel_rfl) (by kernel_rfl) (by repeat' (first | (with_reducible apply tame_then) | (with_reducible apply tame_block) | (with_reducible apply tame_scope) | exact tame_gives | exact tame_body (fun _ _ h => ⟨_, h.1⟩))) ?_
                      simp only [List.take_succ_cons, List.take_zero, List.drop_succ_cons, List.drop_zero]
                      go_wp2
                      refine headed ?_
                      at_delete
                      refine wpList_delC rfl (.tmp 136) (.tmp 138) _ _ rfl rfl rfl (HRUN.out _) ?_
                      clear t0 q1
                      have r0 := HM9.out.lay.cellB 2 rfl 0 (by omega)
                      have r1 := HM9.out.lay.cellB 2 rfl 1 (by omega)
                      have r2 := HM9.out.lay.cellB 2 rfl 2 (by omega)
                      have r3 := HM9.out.lay.cellB 2 rfl 3 (by omega)
                      have y0 := HM9.out.lay.frz 2 rfl (by omega) 0
                      have y1 := HM9.out.lay.frz 2 rfl (by omega) 1
                      have y2 := HM9.out.lay.frz 2 rfl (by omega) 2
                      have y3 := HM9.out.lay.frz 2 rfl (by omega) 3
                      go_wp2
                      have HF := Lib.hid ((((HM9.out.fld 2 0 (.int .i64 0) rfl (by omega) (by simp)).fld 2 1 (.string ⟨#[]⟩) rfl (by omega) (by simp)).fld 2 2 (.int .i64 0) rfl (by omega) (by simp)).fld 2 3 (.slice none 0 0) rfl (by omega) (by simp))
                      have f0 := HF.out.lay.cellB 2 rfl 0 (by omega)
                      have f1 := HF.out.lay.cellB 2 rfl 1 (by omega)
                      have f2 := HF.out.lay.cellB 2 rfl 2 (by omega)
                      have f3 := HF.out.lay.cellB 2 rfl 3 (by omega)
                      simp only [List.set_cons_zero, List.set_cons_succ, ofL_0, ofL_1, ofL_2, ofL_3] at f0 f1 f2 f3
                      refine bodyPost_ret (v := toldV none 0 (A0 0)) (by simp [results, Tryd.results20, go_sem, f0, f1, f2, f3, toldV, A0, bs_nil, srt_len]) rfl ?_
                      exact ⟨_, rfl, none, 0, rfl, HF.out.dn2.dn2.dn2.lnil _ _ _⟩
                    · have hz : partsOf st.ks p ≠ [] := fun h => by have := HNN.out; rw [h] at this; simp at this; omega
                      obtain rfl : r = (A0 7, st) := by rw [HR6.out]; exact if_pos hz
                      clear HR6 hz
                      have r0 := HW5.out.lay.cellB 2 rfl 0 (by omega)
                      have r1 := HW5.out.lay.cellB 2 rfl 1 (by omega)
                      have r2 := HW5.out.lay.cellB 2 rfl 2 (by omega)
                      have r3 := HW5.out.lay.cellB 2 rfl 3 (by omega)
                      have y0 := HW5.out.lay.frz 2 rfl (by omega) 0
                      have y1 := HW5.out.lay.frz 2 rfl (by omega) 1
                      have y2 := HW5.out.lay.frz 2 rfl (by omega) 2
                      have y3 := HW5.out.lay.frz 2 rfl (by omega) 3
                      go_wp2
                      have HF := Lib.hid ((((HW5.out.fld 2 0 (.int .i64 7) rfl (by omega) (by simp)).fld 2 1 (.string ⟨#[]⟩) rfl (by omega) (by simp)).fld 2 2 (.int .i64 0) rfl (by omega) (by simp)).fld 2 3 (.slice none 0 0) rfl (by omega) (by simp))
                      have f0 := HF.out.lay.cellB 2 rfl 0 (by omega)
                      have f1 := HF.out.lay.cellB 2 rfl 1 (by omega)
                      have f2 := HF.out.lay.cellB 2 rfl 2 (by omega)
                      have f3 := HF.out.lay.cellB 2 rfl 3 (by omega)
                      simp only [List.set_cons_zero, List.set_cons_succ, ofL_0, ofL_1, ofL_2, ofL_3] at f0 f1 f2 f3
                      refine bodyPost_ret (v := toldV none 0 (A0 7)) (by simp [results, Tryd.results20, go_sem, f0, f1, f2, f3, toldV, A0, bs_nil, srt_len]) rfl ?_
                      exact ⟨_, rfl, none, 0, rfl, HF.out.dn2.dn2.dn2.lnil _ _ _⟩
                  · go_wp2_with (go_at_call 24
                                 refine (name_any p W3 HD.out.pl).mono ?_
                                 rintro e w4 ⟨rfl, hb4⟩
                                 have HW4 := Lib.hid (HW3.out.keep hb4)
                                 rw [HNB.out]
                                 clear hb4 q0 q1 q2 q3 n0 n1 r0 r1 r2 r3 y0 y1 y2 y3
                                 have r0 := HW4.out.lay.cellB 1 rfl 0 (by omega)
                                 have r1 := HW4.out.lay.cellB 1 rfl 1 (by omega)
                                 have r2 := HW4.out.lay.cellB 1 rfl 2 (by omega)
                                 have r3 := HW4.out.lay.cellB 1 rfl 3 (by omega)
                                 have y0 := HW4.out.lay.frz 1 rfl (by omega) 0
                                 have y1 := HW4.out.lay.frz 1 rfl (by omega) 1
                                 have y2 := HW4.out.lay.frz 1 rfl (by omega) 2
                                 have y3 := HW4.out.lay.frz 1 rfl (by omega) 3
                                 have q0 := HW4.out.lay.cellB 2 rfl 0 (by omega)
                                 have q1 := HW4.out.lay.cellB 2 rfl 1 (by omega)
                                 have q2 := HW4.out.lay.cellB 2 rfl 2 (by omega)
                                 have q3 := HW4.out.lay.cellB 2 rfl 3 (by omega)
                                 have n0 := HW4.out.lay.cellB 0 rfl 0 (by omega)
                                 have n1 := HW4.out.lay.cellB 0 rfl 1 (by omega)
                                 simp only [List.set_cons_zero, List.set_cons_succ, ofL_0, ofL_1, ofL_2, ofL_3] at q0 q1 q2 q3 n0 n1
                                 skip)
                    refine (below_any tb bm _ Q w0 w4 st p HT.out.bel HT.out.len (HW4.out.up3.unpin HE.out)).mono ?_
                    rintro e w5 ⟨A, cA, rfl, h5⟩
                    have HW5 := Lib.hid h5.tl
                    clear h5 q0 q1 q2 q3 n0 n1 r0 r1 r2 r3 y0 y1 y2 y3
                    obtain ⟨n, hn⟩ : ∃ n, (partsOf st.ks p).length = n := ⟨_, rfl⟩
                    rw [hn]
                    have HNN := Lib.hid hn
                    clear hn
                    rcases Nat.eq_zero_or_pos n with rfl | hn0
                    · have hz : partsOf st.ks p = [] := List.eq_nil_of_length_eq_zero HNN.out
                      obtain rfl : r = (A0 0, dropS st p) := by rw [HR6.out]; exact if_neg (not_not_intro hz)
                      clear HR6 hz
                      go_wp2
                      obtain ⟨es5, c5, hE5, h6⟩ := HW5.out.pin
                      have HW6 := Lib.hid h6.drew
                      obtain ⟨es', hrun, hE'⟩ := hE5.drop HW6.out.pinned p HD.out.pl HIN.out
                      have HRUN := Lib.hid hrun
                      have HM9 := Lib.hid (HW6.out.setM 0 rfl es' c5 (TrE (dropS st p)) hE')
                      clear h6 hE5 hE' hrun
                      have t0 := HW6.out.lay.cellB 0 rfl 0 (by omega)
                      have q1 := HW6.out.lay.cellB 3 rfl 1 (by omega)
                      simp only [List.set_cons_zero, List.set_cons_succ, ofL_0, ofL_1] at q1 t0
                      refine wp_text 6 (by kernel_rfl) (by kernel_rfl) (by kernel_rfl) (by repeat' (first | (with_reducible apply tame_then) | (with_reducible apply tame_block) | (with_reducible apply tame_scope) | exact tame_gives | exact tame_body (fun _ _ h => ⟨_, h.1⟩))) ?_
                      simp only [List.take_succ_cons, List.take_zero, List.drop_succ_cons, List.drop_zero]
                      go_wp2
                      refine headed ?_
                      at_delete
                      refine wpList_delC rfl (.tmp 136) (.tmp 138) _ _ rfl rfl rfl (HRUN.out _) ?_
                      clear t0 q1
                      have r0 := HM9.out.lay.cellB 2 rfl 0 (by omega)
                      have r1 := HM9.out.lay.cellB 2 rfl 1 (by omega)
                      have r2 := HM9.out.lay.cellB 2 rfl 2 (by omega)
                      have r3 := HM9.out.lay.cellB 2 rfl 3 (by omega)
                      have y0 := HM9.out.lay.frz 2 rfl (by omega) 0
                      have y1 := HM9.out.lay.frz 2 rfl (by omega) 1
                      have y2 := HM9.out.lay.frz 2 rfl (by omega) 2
                      have y3 := HM9.out.lay.frz 2 rfl (by omega) 3
                      go_wp2
                      have HF := Lib.hid ((((HM9.out.fld 2 0 (.int .i64 0) rfl (by omega) (by simp)).fld 2 1 (.string ⟨#[]⟩) rfl (by omega) (by simp)).fld 2 2 (.int .i64 0) rfl (by omega) (by simp)).fld 2 3 (.slice none 0 0) rfl (by omega) (by simp))
                      have f0 := HF.out.lay.cellB 2 rfl 0 (by omega)
                      have f1 := HF.out.lay.cellB 2 rfl 1 (by omega)
                      have f2 := HF.out.lay.cellB 2 rfl 2 (by omega)
                      have f3 := HF.out.lay.cellB 2 rfl 3 (by omega)
                      simp only [List.set_cons_zero, List.set_cons_succ, ofL_0, ofL_1, ofL_2, ofL_3] at f0 f1 f2 f3
                      refine bodyPost_ret (v := toldV none 0 (A0 0)) (by simp [results, Tryd.results20, go_sem, f0, f1, f2, f3, toldV, A0, bs_nil, srt_len]) rfl ?_
                      exact ⟨_, rfl, none, 0, rfl, HF.out.dn2.dn2.dn2.lnil _ _ _⟩
                    · have hz : partsOf st.ks p ≠ [] := fun h => by have := HNN.out; rw [h] at this; simp at this; omega
                      obtain rfl : r = (A0 7, st) := by rw [HR6.out]; exact if_pos hz
                      clear HR6 hz
                      have r0 := HW5.out.lay.cellB 2 rfl 0 (by omega)
                      have r1 := HW5.out.lay.cellB 2 rfl 1 (by omega)
                      have r2 := HW5.out.lay.cellB 2 rfl 2 (by omega)
                      have r3 := HW5.out.lay.cellB 2 rfl 3 (by omega)
                      have y0 := HW5.out.lay.frz 2 rfl (by omega) 0
                      have y1 := HW5.out.lay.frz 2 rfl (by omega) 1
                      have y2 := HW5.out.lay.frz 2 rfl (by omega) 2
                      have y3 := HW5.out.lay.frz 2 rfl (by omega) 3
                      go_wp2
                      have HF := Lib.hid ((((HW5.out.fld 2 0 (.int .i64 7) rfl (by omega) (by simp)).fld 2 1 (.string ⟨#[]⟩) rfl (by omega) (by simp)).fld 2 2 (.int .i64 0) rfl (by omega) (by simp)).fld 2 3 (.slice none 0 0) rfl (by omega) (by simp))
                      have f0 := HF.out.lay.cellB 2 rfl 0 (by omega)
                      have f1 := HF.out.lay.cellB 2 rfl 1 (by omega)
                      have f2 := HF.out.lay.cellB 2 rfl 2 (by omega)
                      have f3 := HF.out.lay.cellB 2 rfl 3 (by omega)
                      simp only [List.set_cons_zero, List.set_cons_succ, ofL_0, ofL_1, ofL_2, ofL_3] at f0 f1 f2 f3
                      refine bodyPost_ret (v := toldV none 0 (A0 7)) (by simp [results, Tryd.results20, go_sem, f0, f1, f2, f3, toldV, A0, bs_nil, srt_len]) rfl ?_
                      exact ⟨_, rfl, none, 0, rfl, HF.out.dn2.dn2.dn2.lnil _ _ _⟩
            · obtain rfl : r = (A0 3, st) := by rw [HR4.out]; exact if_pos ⟨rfl, by rw [bs_toList] at hpe; exact eq_of_beq hpe⟩
              clear HR4
              go_wp2_with (go_at_call 24
                           refine (name_any p W3 HD.out.pl).mono ?_
                           rintro e w4 ⟨rfl, hb4⟩
                           have HW4 := Lib.hid (HW3.out.keep hb4)
                           rw [HNB.out]
                           clear hb4 q0 q1 q2 q3 n0 n1 r0 r1 r2 r3 y0 y1 y2 y3
                           have r0 := HW4.out.lay.cellB 1 rfl 0 (by omega)
                           have r1 := HW4.out.lay.cellB 1 rfl 1 (by omega)
                           have r2 := HW4.out.lay.cellB 1 rfl 2 (by omega)
                           have r3 := HW4.out.lay.cellB 1 rfl 3 (by omega)
                           have y0 := HW4.out.lay.frz 1 rfl (by omega) 0
                           have y1 := HW4.out.lay.frz 1 rfl (by omega) 1
                           have y2 := HW4.out.lay.frz 1 rfl (by omega) 2
                           have y3 := HW4.out.lay.frz 1 rfl (by omega) 3
                           have q0 := HW4.out.lay.cellB 2 rfl 0 (by omega)
                           have q1 := HW4.out.lay.cellB 2 rfl 1 (by omega)
                           have q2 := HW4.out.lay.cellB 2 rfl 2 (by omega)
                           have q3 := HW4.out.lay.cellB 2 rfl 3 (by omega)
                           have n0 := HW4.out.lay.cellB 0 rfl 0 (by omega)
                           have n1 := HW4.out.lay.cellB 0 rfl 1 (by omega)
                           simp only [List.set_cons_zero, List.set_cons_succ, ofL_0, ofL_1, ofL_2, ofL_3] at q0 q1 q2 q3 n0 n1
                           skip)
              have HF := Lib.hid ((((HW4.out.fld 1 0 (.int .i64 3) rfl (by omega) (by simp)).fld 1 1 (.string ⟨#[]⟩) rfl (by omega) (by simp)).fld 1 2 (.int .i64 0) rfl (by omega) (by simp)).fld 1 3 (.slice none 0 0) rfl (by omega) (by simp))
              have f0 := HF.out.lay.cellB 1 rfl 0 (by omega)
              have f1 := HF.out.lay.cellB 1 rfl 1 (by omega)
              have f2 := HF.out.lay.cellB 1 rfl 2 (by omega)
              have f3 := HF.out.lay.cellB 1 rfl 3 (by omega)
              simp only [List.set_cons_zero, List.set_cons_succ, ofL_0, ofL_1, ofL_2, ofL_3] at f0 f1 f2 f3
              refine bodyPost_ret (v := toldV none 0 (A0 3)) (by simp [results, Tryd.results20, go_sem, f0, f1, f2, f3, toldV, A0, bs_nil, srt_len]) rfl ?_
              exact ⟨_, rfl, none, 0, rfl, (HF.out.tl.tl.tl.unpin HE.out).lnil _ _ _⟩
          · have HR4 := Lib.hid ((HR3.out.trans (if_neg (show ¬ (4:Int) = 1 by decide))).trans (if_neg (fun h => absurd h.1 (show ¬ (4:Int) = 3 by decide))))
            clear hk hp HR3
            cases b1
            · obtain rfl : r = (A0 5, st) := by rw [HR4.out]; exact if_pos (of_decide_eq_false HB1.out)
              go_wp2_with (go_at_call 24
                           refine (name_any p W3 HD.out.pl).mono ?_
                           rintro e w4 ⟨rfl, hb4⟩
                           have HW4 := Lib.hid (HW3.out.keep hb4)
                           rw [HNB.out]
                           clear hb4 q0 q1 q2 q3 n0 n1 r0 r1 r2 r3 y0 y1 y2 y3
                           have r0 := HW4.out.lay.cellB 1 rfl 0 (by omega)
                           have r1 := HW4.out.lay.cellB 1 rfl 1 (by omega)
                           have r2 := HW4.out.lay.cellB 1 rfl 2 (by omega)
                           have r3 := HW4.out.lay.cellB 1 rfl 3 (by omega)
                           have y0 := HW4.out.lay.frz 1 rfl (by omega) 0
                           have y1 := HW4.out.lay.frz 1 rfl (by omega) 1
                           have y2 := HW4.out.lay.frz 1 rfl (by omega) 2
                           have y3 := HW4.out.lay.frz 1 rfl (by omega) 3
                           have q0 := HW4.out.lay.cellB 2 rfl 0 (by omega)
                           have q1 := HW4.out.lay.cellB 2 rfl 1 (by omega)
                           have q2 := HW4.out.lay.cellB 2 rfl 2 (by omega)
                           have q3 := HW4.out.lay.cellB 2 rfl 3 (by omega)
                           have n0 := HW4.out.lay.cellB 0 rfl 0 (by omega)
                           have n1 := HW4.out.lay.cellB 0 rfl 1 (by omega)
                           simp only [List.set_cons_zero, List.set_cons_succ, ofL_0, ofL_1, ofL_2, ofL_3] at q0 q1 q2 q3 n0 n1
                           skip)
              have HF := Lib.hid ((((HW4.out.fld 1 0 (.int .i64 5) rfl (by omega) (by simp)).fld 1 1 (.string ⟨#[]⟩) rfl (by omega) (by simp)).fld 1 2 (.int .i64 0) rfl (by omega) (by simp)).fld 1 3 (.slice none 0 0) rfl (by omega) (by simp))
              have f0 := HF.out.lay.cellB 1 rfl 0 (by omega)
              have f1 := HF.out.lay.cellB 1 rfl 1 (by omega)
              have f2 := HF.out.lay.cellB 1 rfl 2 (by omega)
              have f3 := HF.out.lay.cellB 1 rfl 3 (by omega)
              simp only [List.set_cons_zero, List.set_cons_succ, ofL_0, ofL_1, ofL_2, ofL_3] at f0 f1 f2 f3
              refine bodyPost_ret (v := toldV none 0 (A0 5)) (by simp [results, Tryd.results20, go_sem, f0, f1, f2, f3, toldV, A0, bs_nil, srt_len]) rfl ?_
              exact ⟨_, rfl, none, 0, rfl, (HF.out.tl.tl.tl.unpin HE.out).lnil _ _ _⟩
            · have HIN := Lib.hid (of_decide_eq_true HB1.out)
              obtain ⟨ex, ev⟩ := HXV.out HIN.out
              obtain rfl : r = (⟨0, x1, ((v1 : Nat) : Int), []⟩, st) := by
                rw [HR4.out, if_neg (not_not_intro HIN.out), if_pos rfl, ex, ev]
              clear HR4 ex ev
              go_wp2_with (go_at_call 24
                           refine (name_any p W3 HD.out.pl).mono ?_
                           rintro e w4 ⟨rfl, hb4⟩
                           have HW4 := Lib.hid (HW3.out.keep hb4)
                           rw [HNB.out]
                           clear hb4 q0 q1 q2 q3 n0 n1 r0 r1 r2 r3 y0 y1 y2 y3
                           have r0 := HW4.out.lay.cellB 1 rfl 0 (by omega)
                           have r1 := HW4.out.lay.cellB 1 rfl 1 (by omega)
                           have r2 := HW4.out.lay.cellB 1 rfl 2 (by omega)
                           have r3 := HW4.out.lay.cellB 1 rfl 3 (by omega)
                           have y0 := HW4.out.lay.frz 1 rfl (by omega) 0
                           have y1 := HW4.out.lay.frz 1 rfl (by omega) 1
                           have y2 := HW4.out.lay.frz 1 rfl (by omega) 2
                           have y3 := HW4.out.lay.frz 1 rfl (by omega) 3
                           have q0 := HW4.out.lay.cellB 2 rfl 0 (by omega)
                           have q1 := HW4.out.lay.cellB 2 rfl 1 (by omega)
                           have q2 := HW4.out.lay.cellB 2 rfl 2 (by omega)
                           have q3 := HW4.out.lay.cellB 2 rfl 3 (by omega)
                           have n0 := HW4.out.lay.cellB 0 rfl 0 (by omega)
                           have n1 := HW4.out.lay.cellB 0 rfl 1 (by omega)
                           simp only [List.set_cons_zero, List.set_cons_succ, ofL_0, ofL_1, ofL_2, ofL_3] at q0 q1 q2 q3 n0 n1
                           skip)
              have HF := Lib.hid ((((HW4.out.fld 1 0 (.int .i64 0) rfl (by omega) (by simp)).fld 1 1 (.string (bs x1)) rfl (by omega) (by simp)).fld 1 2 (.int .i64 (v1 : Nat)) rfl (by omega) (by simp)).fld 1 3 (.slice none 0 0) rfl (by omega) (by simp))
              have f0 := HF.out.lay.cellB 1 rfl 0 (by omega)
              have f1 := HF.out.lay.cellB 1 rfl 1 (by omega)
              have f2 := HF.out.lay.cellB 1 rfl 2 (by omega)
              have f3 := HF.out.lay.cellB 1 rfl 3 (by omega)
              simp only [List.set_cons_zero, List.set_cons_succ, ofL_0, ofL_1, ofL_2, ofL_3] at f0 f1 f2 f3
              refine bodyPost_ret (v := toldV none 0 (⟨0, x1, ((v1 : Nat) : Int), []⟩ : Ans)) (by simp [results, Tryd.results20, go_sem, f0, f1, f2, f3, toldV, A0, bs_nil, srt_len]) rfl ?_
              exact ⟨_, rfl, none, 0, rfl, (HF.out.tl.tl.tl.unpin HE.out).lnil _ _ _⟩
          · have HR4 := Lib.hid ((HR3.out.trans (if_neg (show ¬ (5:Int) = 1 by decide))).trans (if_neg (fun h => absurd h.1 (show ¬ (5:Int) = 3 by decide))))
            clear hk hp HR3
            cases b1
            · obtain rfl : r = (A0 5, st) := by rw [HR4.out]; exact if_pos (of_decide_eq_false HB1.out)
              go_wp2_with (go_at_call 24
                           refine (name_any p W3 HD.out.pl).mono ?_
                           rintro e w4 ⟨rfl, hb4⟩
                           have HW4 := Lib.hid (HW3.out.keep hb4)
                           rw [HNB.out]
                           clear hb4 q0 q1 q2 q3 n0 n1 r0 r1 r2 r3 y0 y1 y2 y3
                           have r0 := HW4.out.lay.cellB 1 rfl 0 (by omega)
                           have r1 := HW4.out.lay.cellB 1 rfl 1 (by omega)
                           have r2 := HW4.out.lay.cellB 1 rfl 2 (by omega)
                           have r3 := HW4.out.lay.cellB 1 rfl 3 (by omega)
                           have y0 := HW4.out.lay.frz 1 rfl (by omega) 0
                           have y1 := HW4.out.lay.frz 1 rfl (by omega) 1
                           have y2 := HW4.out.lay.frz 1 rfl (by omega) 2
                           have y3 := HW4.out.lay.frz 1 rfl (by omega) 3
                           have q0 := HW4.out.lay.cellB 2 rfl 0 (by omega)
                           have q1 := HW4.out.lay.cellB 2 rfl 1 (by omega)
                           have q2 := HW4.out.lay.cellB 2 rfl 2 (by omega)
                           have q3 := HW4.out.lay.cellB 2 rfl 3 (by omega)
                           have n0 := HW4.out.lay.cellB 0 rfl 0 (by omega)
                           have n1 := HW4.out.lay.cellB 0 rfl 1 (by omega)
                           simp only [List.set_cons_zero, List.set_cons_succ, ofL_0, ofL_1, ofL_2, ofL_3] at q0 q1 q2 q3 n0 n1
                           skip)
              have HF := Lib.hid ((((HW4.out.fld 1 0 (.int .i64 5) rfl (by omega) (by simp)).fld 1 1 (.string ⟨#[]⟩) rfl (by omega) (by simp)).fld 1 2 (.int .i64 0) rfl (by omega) (by simp)).fld 1 3 (.slice none 0 0) rfl (by omega) (by simp))
              have f0 := HF.out.lay.cellB 1 rfl 0 (by omega)
              have f1 := HF.out.lay.cellB 1 rfl 1 (by omega)
              have f2 := HF.out.lay.cellB 1 rfl 2 (by omega)
              have f3 := HF.out.lay.cellB 1 rfl 3 (by omega)
              simp only [List.set_cons_zero, List.set_cons_succ, ofL_0, ofL_1, ofL_2, ofL_3] at f0 f1 f2 f3
              refine bodyPost_ret (v := toldV none 0 (A0 5)) (by simp [results, Tryd.results20, go_sem, f0, f1, f2, f3, toldV, A0, bs_nil, srt_len]) rfl ?_
              exact ⟨_, rfl, none, 0, rfl, (HF.out.tl.tl.tl.unpin HE.out).lnil _ _ _⟩
            · have HIN := Lib.hid (of_decide_eq_true HB1.out)
              obtain ⟨ex, ev⟩ := HXV.out HIN.out
              obtain rfl : r = (⟨0, [], ((v1 : Nat) : Int), srtL (partsOf st.ks p)⟩, st) := by
                rw [HR4.out, if_neg (not_not_intro HIN.out), if_neg (show ¬ (5:Int) = 4 by decide), if_pos rfl, ev]
              clear HR4 ex ev
              go_wp2_with (go_at_call 24
                           refine (name_any p W3 HD.out.pl).mono ?_
                           rintro e w4 ⟨rfl, hb4⟩
                           have HW4 := Lib.hid (HW3.out.keep hb4)
                           rw [HNB.out]
                           clear hb4 q0 q1 q2 q3 n0 n1 r0 r1 r2 r3 y0 y1 y2 y3
                           have r0 := HW4.out.lay.cellB 1 rfl 0 (by omega)
                           have r1 := HW4.out.lay.cellB 1 rfl 1 (by omega)
                           have r2 := HW4.out.lay.cellB 1 rfl 2 (by omega)
                           have r3 := HW4.out.lay.cellB 1 rfl 3 (by omega)
                           have y0 := HW4.out.lay.frz 1 rfl (by omega) 0
                           have y1 := HW4.out.lay.frz 1 rfl (by omega) 1
                           have y2 := HW4.out.lay.frz 1 rfl (by omega) 2
                           have y3 := HW4.out.lay.frz 1 rfl (by omega) 3
                           have q0 := HW4.out.lay.cellB 2 rfl 0 (by omega)
                           have q1 := HW4.out.lay.cellB 2 rfl 1 (by omega)
                           have q2 := HW4.out.lay.cellB 2 rfl 2 (by omega)
                           have q3 := HW4.out.lay.cellB 2 rfl 3 (by omega)
                           have n0 := HW4.out.lay.cellB 0 rfl 0 (by omega)
                           have n1 := HW4.out.lay.cellB 0 rfl 1 (by omega)
                           simp only [List.set_cons_zero, List.set_cons_succ, ofL_0, ofL_1, ofL_2, ofL_3] at q0 q1 q2 q3 n0 n1
                           skip)
              have hs : VlN q qn p v1 w4 := ⟨q1, n1⟩
              clear q0 q1 q2 q3 n0 n1 r0 r1 r2 r3 y0 y1 y2 y3
              refine wp_held_mask (VlN q qn p v1) [true, true, true, true, true, false, false, false] ?L1 (by kernel_rfl) rfl (by kernel_rfl) (by repeat' (first | (with_reducible apply tame_then) | (with_reducible apply tame_block) | (with_reducible apply tame_scope) | exact tame_gives | exact tame_body (fun _ _ h => ⟨_, h.1⟩))) hs ?lh ?lt
              case lh =>
                intro W6 ⟨s0, s1⟩
                simp only [pick]
                go_wp2
                exact taken
              case lt =>
                simp only [pick, List.map_cons, List.map_nil, Bool.not_true, Bool.not_false]
                refine tail_step ?_
                go_wp2_with (go_at_call 26
                             refine (below_any tb bm _ Q w0 w4.drew st p HT.out.bel HT.out.len (HW4.out.drew.up3.unpin HE.out)).mono ?_
                             rintro e w5 ⟨A, cA, rfl, h5⟩
                             have HW5 := Lib.hid h5
                             clear hs h5)
                obtain ⟨n, hn⟩ : ∃ n, (partsOf st.ks p).length = n := ⟨_, rfl⟩
                rw [hn]
                have HNN := Lib.hid hn
                clear hn
                refine holds ⟨HW5.out.lay.cellB 4 rfl 1 (by omega), HW5.out.lay.cellB 2 rfl 1 (by omega)⟩ ?_
                refine tail_step ?_
                go_wp2
                refine holds ⟨HW5.out.lay.cellB 4 rfl 1 (by omega), HW5.out.lay.cellB 2 rfl 1 (by omega)⟩ ?_
                refine tail_last ?_
                have r0 := HW5.out.lay.cellB 3 rfl 0 (by omega)
                have r1 := HW5.out.lay.cellB 3 rfl 1 (by omega)
                have r2 := HW5.out.lay.cellB 3 rfl 2 (by omega)
                have r3 := HW5.out.lay.cellB 3 rfl 3 (by omega)
                have y0 := HW5.out.lay.frz 3 rfl (by omega) 0
                have y1 := HW5.out.lay.frz 3 rfl (by omega) 1
                have y2 := HW5.out.lay.frz 3 rfl (by omega) 2
                have y3 := HW5.out.lay.frz 3 rfl (by omega) 3
                go_wp2
                have HF := Lib.hid ((((HW5.out.fld 3 0 (.int .i64 0) rfl (by omega) (by simp)).fld 3 1 (.string ⟨#[]⟩) rfl (by omega) (by simp)).fld 3 2 (.int .i64 (v1 : Nat)) rfl (by omega) (by simp)).fld 3 3 (.slice A n cA) rfl (by omega) (by simp))
                have f0 := HF.out.lay.cellB 3 rfl 0 (by omega)
                have f1 := HF.out.lay.cellB 3 rfl 1 (by omega)
                have f2 := HF.out.lay.cellB 3 rfl 2 (by omega)
                have f3 := HF.out.lay.cellB 3 rfl 3 (by omega)
                simp only [List.set_cons_zero, List.set_cons_succ, ofL_0, ofL_1, ofL_2, ofL_3] at f0 f1 f2 f3
                refine bodyPost_ret (v := toldV A cA ⟨0, [], ((v1 : Nat) : Int), srtL (partsOf st.ks p)⟩) (by simp [results, Tryd.results20, go_sem, f0, f1, f2, f3, toldV, bs_nil, srt_len, HNN.out]) rfl ?_
                exact ⟨_, rfl, A, cA, rfl, HF.out.dn3.dn3.dn3⟩
end Go.Proofs.YtfdgjbanajodfaaDoor
