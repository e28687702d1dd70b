/- The walk of build. -/
import Derived.Test.YtfdgjbanajodfaaDoorTrBel
import Derived.Test.YtfdgjbanajodfaaDoorHeld
set_option linter.unusedVariables false
set_option linter.unusedSimpArgs false
namespace Go.Proofs.YtfdgjbanajodfaaDoor
open Go.RowKit Go.Maps Go.MapKept

abbrev cellsD (d : Deed) : List Value := [.int .i64 d.kind, .string (bs d.path), .string (bs d.data), .int .i64 d.version]
abbrev rowD (q : Nat) (d : Deed) : LRow := blk q 30 4 (ofL (cellsD d))
abbrev rowN (q : Nat) (x : Str) (v : Nat) : LRow := blk q 83 2 (ofL [.string (bs x), .int .i64 (v : Nat)])
/-- What the loads of 't.nodes[d.Path]' read. -/
def LkS (tb bm q : Nat) (es : Array MapEntry) (c : Nat) (p : Str) (w : World) : Prop := w.cell? ⟨tb, 0, none⟩ = some (.map (some bm)) ∧ w.cell? ⟨q, 1, none⟩ = some (.string (bs p)) ∧ w.heap[bm]? = some (.map es c)
def PinM (es : Array MapEntry) (c : Nat) (e' : Array MapEntry) (c' : Nat) : Prop := e' = es ∧ c' = c
theorem LayM.pinned {w0 w : World} {L : List LRow} {Q : List MRow} {bm c : Nat} {es : Array MapEntry} (h : LayM w0 w L (⟨bm, PinM es c⟩ :: Q)) : w.heap[bm]? = some (.map es c) := by
  obtain ⟨e', c', h1, h2, h3⟩ := h.mp 0 rfl
  subst h2; subst h3
  exact h1
theorem LayM.pin {w0 w : World} {L : List LRow} {Q : List MRow} {bm : Nat} {φ : Array MapEntry → Nat → Prop} (h : LayM w0 w L (⟨bm, φ⟩ :: Q)) : ∃ es c, φ es c ∧ LayM w0 w L (⟨bm, PinM es c⟩ :: Q) := by
  obtain ⟨es, c, h1, h2⟩ := h.mp 0 rfl
  have h1 : w.heap[bm]? = some (.map es c) := h1
  refine ⟨es, c, h2, h.reφ (PinM es c) fun e' c' h3 _ => ?_⟩
  have h3 : w.heap[bm]? = some (.map e' c') := h3
  rw [h1] at h3
  injection h3 with h3
  injection h3 with h3 h4
  exact ⟨h3.symm, h4.symm⟩
theorem LayM.unpin {w0 w : World} {L : List LRow} {Q : List MRow} {bm c : Nat} {es : Array MapEntry} {φ : Array MapEntry → Nat → Prop} (h : LayM w0 w L (⟨bm, PinM es c⟩ :: Q)) (hφ : φ es c) : LayM w0 w L (⟨bm, φ⟩ :: Q) :=
  h.reφ φ fun e' c' _ h1 => by obtain ⟨rfl, rfl⟩ := h1; exact hφ
theorem TrE.look' {st : TS} {es : Array MapEntry} {c bm : Nat} (h : TrE st es c) (s : Str) (hs : s.length ≤ 140737488351232) : ∃ (x : Str) (v : Nat), (s ∈ st.ks → x = st.dat s ∧ v = st.ver s) ∧ ∀ w : World, w.heap[bm]? = some (.map es c) →
    (Instr.lookup 84 (.map (some bm)) (.string (bs s)) true).run Tryd.prog w = .ok (.tuple #[nodeV x v, .bool (decide (s ∈ st.ks))]) w := by
  by_cases hin : s ∈ st.ks
  · exact ⟨st.dat s, st.ver s, fun _ => ⟨rfl, rfl⟩, fun w hb => by have := h.look hb s hs; rwa [if_pos hin] at this⟩
  · exact ⟨[], 0, fun h => absurd h hin, fun w hb => by have := h.look hb s hs; rwa [if_neg hin] at this⟩
/-- What the loads of 't.nodes[d.Path] = node{data: d.Data}' read. -/
def PtS (tb bm q : Nat) (es : Array MapEntry) (c : Nat) (p x : Str) (w : World) : Prop := LkS tb bm q es c p w ∧ w.cell? ⟨q, 2, none⟩ = some (.string (bs x))
theorem LayM.tl {w0 w : World} {r : LRow} {L : List LRow} {Q : List MRow} (h : LayM w0 w (r :: L) Q) : LayM w0 w L Q := h.step h.lay.tail (.refl _)
structure DeedOk (d : Deed) : Prop where
  sl : 47 ∈ d.path
  pl : d.path.length ≤ 140737488351232
  dl : d.data.length ≤ 140737488351232
set_option maxRecDepth 100000 in
set_option maxHeartbeats 3200000 in
theorem build_any (tb bm : Nat) (R : List LRow) (Q : List MRow) (w0 w : World) (st : TS) (d : Deed) (hd : DeedOk d) (hlen : st.ks.length ≤ 12) (h : LayM w0 w (rowT tb bm :: R) (⟨bm, TrE st⟩ :: Q)) :
    Calls Tryd.prog 25 #[.pointer (some ⟨tb, 0, none⟩), .agg #[.int .i64 d.kind, .string (bs d.path), .string (bs d.data), .int .i64 d.version]] w fun e w' => e = .returned (.int .i64 (buildS st d).1) ∧ LayM w0 w' (rowT tb bm :: R) (⟨bm, TrE (buildS st d).2⟩ :: Q) := by
  obtain ⟨r, hr⟩ : ∃ r, r = buildS st d := ⟨_, rfl⟩
  rw [← hr]
  have HRR := Lib.hid hr
  have HD := Lib.hid hd
  obtain ⟨es, c, hE, h⟩ := h.pin
  have HE := Lib.hid hE
  have HM := Lib.hid (h.newB (cellsD d) 30 4 rfl _ rfl)
  obtain ⟨x1, v1, -, hk1⟩ := hE.look' (bm := bm) d.path hd.pl
  obtain ⟨x2, v2, -, hk2⟩ := hE.look' (bm := bm) (parL d.path) (by unfold parL; rw [List.length_take]; have := hd.pl; omega)
  have HK1 := Lib.hid hk1
  have HK2 := Lib.hid hk2
  have hes := hE.len
  obtain ⟨b1, hb1⟩ : ∃ b, decide (d.path ∈ st.ks) = b := ⟨_, rfl⟩
  obtain ⟨b2, hb2⟩ : ∃ b, decide (parL d.path ∈ st.ks) = b := ⟨_, rfl⟩
  rw [hb1] at HK1
  rw [hb2] at HK2
  have HB1 := Lib.hid hb1
  have HB2 := Lib.hid hb2
  clear hr hd h hE hk1 hk2 hb1 hb2
  have hmt : Tryd.prog.underlying 84 = some (.map (Tryd.prog.mapKeyOf 84) (Tryd.prog.mapElemOf 84)) := by kernel_rfl
  go_enter Tryd.func25, Tryd.ntmps25
  go_wp2
  refine at_layM (F := fun W' => Code.wp _ _ _ _ W') HM.out ?_
  intro W hW
  have HW := Lib.hid hW
  clear hW HM
  generalize w.heap.size = q at HW ⊢
  have hs : LkS tb bm q es c d.path W := ⟨HW.out.lay.cellB 1 rfl 0 (by omega), HW.out.lay.cellB 0 rfl 1 (by omega), HW.out.pinned⟩
  refine wp_held_mask (LkS tb bm q es c d.path) [true, true, true, true, true, true, true, true, true, true, false, false, false] ?A1 (by kernel_rfl) rfl (by kernel_rfl) (by repeat' (first | (with_reducible apply tame_then) | (with_reducible apply tame_block) | (with_reducible apply tame_scope) | exact tame_gives | exact tame_body (fun _ _ h => ⟨_, h.1⟩))) hs ?head ?tail
  case head =>
    intro W5 ⟨s0, s1, s2⟩
    simp only [pick]
    go_wp2_with (first
      | (at_lookup; refine wpList_lookC rfl (.tmp 15) (.tmp 17) _ rfl rfl rfl (HK1.out _ s2) ?_)
      | fail)
    exact taken
  case tail =>
    clear hs
    simp only [pick, List.map_cons, List.map_nil, Bool.not_true, Bool.not_false]
    refine tail_step ?_
    go_wp2
    have HM2 := Lib.hid ((HW.out.newB [.string ⟨#[]⟩, .int .i64 0] 83 2 rfl _ rfl).drew)
    refine at_layM (F := fun W' => Holds _ _ _ _ _ _ _ W') HM2.out ?_
    intro W2 hW2
    have HW2 := Lib.hid hW2
    clear hW2 HM2 HW
    generalize W.heap.size = qn at HW2 ⊢
    refine holds ⟨HW2.out.lay.cellB 2 rfl 0 (by omega), HW2.out.lay.cellB 1 rfl 1 (by omega), HW2.out.pinned⟩ ?_
    refine tail_step ?_
    have n0 := HW2.out.lay.cellB 0 rfl 0 (by omega)
    have n1 := HW2.out.lay.cellB 0 rfl 1 (by omega)
    have z0 := HW2.out.lay.frz 0 rfl (by omega) 0
    have z1 := HW2.out.lay.frz 0 rfl (by omega) 1
    unfold nodeV at *
    go_wp2
    have HM3 := Lib.hid ((HW2.out.fld 0 0 (.string (bs x1)) rfl (by omega) (by simp)).fld 0 1 (.int .i64 (v1 : Nat)) rfl (by omega) (by simp))
    refine at_layM (F := fun W' => Holds _ _ _ _ _ _ _ W') HM3.out ?_
    intro W3 hW3
    have HW3 := Lib.hid hW3
    clear hW3 HM3 HW2 n0 n1 z0 z1
    refine holds ⟨HW3.out.lay.cellB 2 rfl 0 (by omega), HW3.out.lay.cellB 1 rfl 1 (by omega), HW3.out.pinned⟩ ?_
    refine tail_last ?_
    have q1 := HW3.out.lay.cellB 1 rfl 1 (by omega)
    have q2 := HW3.out.lay.cellB 1 rfl 2 (by omega)
    have t0 := HW3.out.lay.cellB 2 rfl 0 (by omega)
    simp only [ofL_0, ofL_1, ofL_2] at q1 q2 t0
    cases b1
    · have hN1 : d.path ∉ st.ks := of_decide_eq_false HB1.out
      have HN1 := Lib.hid hN1
      clear hN1
      go_wp2_with fail
      refine (parent_any d.path W3 HD.out.sl HD.out.pl).mono ?_
      rintro e w4 ⟨rfl, hw4⟩
      have HM4 := Lib.hid HW3.out.drew
      rw [← hw4] at HM4
      clear hw4 q1 q2 t0 HW3
      have q1 := HM4.out.lay.cellB 1 rfl 1 (by omega)
      have q2 := HM4.out.lay.cellB 1 rfl 2 (by omega)
      have t0 := HM4.out.lay.cellB 2 rfl 0 (by omega)
      have htb := (HM4.out.lay.at_ 2 rfl).2
      simp only [ofL_0, ofL_1, ofL_2] at q1 q2 t0
      have HM5 := Lib.hid (HM4.out.newB [.string (bs x2), .int .i64 (v2 : Nat)] 83 2 rfl _ rfl)
      cases b2
      · obtain rfl : r = (5, st) := by
          rw [HRR.out]; unfold buildS
          rw [if_neg HN1.out, if_pos (of_decide_eq_false HB2.out)]
        go_wp2_with (first
          | (at_lookup; refine wpList_lookC rfl (.tmp 32) (.tmp 33) _ rfl rfl rfl (HK2.out _ HM4.out.pinned) ?_)
          | fail)
        go_ret
        exact ⟨rfl, HM5.out.tl.tl.tl.unpin HE.out⟩
      · have HN2 : Hid (¬ parL d.path ∉ st.ks) := Lib.hid (not_not_intro (of_decide_eq_true HB2.out))
        by_cases h12 : 12 ≤ st.ks.length
        · have h12' : 12 ≤ es.size := by omega
          obtain rfl : r = (1, st) := by
            rw [HRR.out]; unfold buildS
            rw [if_neg HN1.out, if_neg HN2.out, if_pos h12]
          go_wp2_with (first
            | (at_lookup; refine wpList_lookC rfl (.tmp 32) (.tmp 33) _ rfl rfl rfl (HK2.out _ HM4.out.pinned) ?_)
            | (at_len; refine wpList_lenE rfl (.tmp 42) _ rfl hmt rfl HM5.out.pinned ?_)
            | fail)
          go_ret
          exact ⟨rfl, HM5.out.tl.tl.tl.unpin HE.out⟩
        · have h12' : es.size < 12 := by omega
          obtain rfl : r = (0, putS st d.path d.data 0) := by
            rw [HRR.out]; unfold buildS
            rw [if_neg HN1.out, if_neg HN2.out, if_neg h12]
          clear HRR h12
          go_wp2_with (first
            | (at_lookup; refine wpList_lookC rfl (.tmp 32) (.tmp 33) _ rfl rfl rfl (HK2.out _ HM4.out.pinned) ?_)
            | (at_len; refine wpList_lenE rfl (.tmp 42) _ rfl hmt rfl HM5.out.pinned ?_)
            | fail)
          refine at_layM (F := fun W' => Code.wp _ _ _ _ W') HM5.out ?_
          intro W5 hW5
          have HW5 := Lib.hid hW5
          clear hW5 HM5 q1 q2 t0 htb HM4
          generalize w4.heap.size = qm at HW5 ⊢
          have hs : PtS tb bm q es c d.path d.data W5 := ⟨⟨HW5.out.lay.cellB 3 rfl 0 (by omega), HW5.out.lay.cellB 2 rfl 1 (by omega), HW5.out.pinned⟩, HW5.out.lay.cellB 2 rfl 2 (by omega)⟩
          refine wp_held_mask (PtS tb bm q es c d.path d.data) [true, true, true, true, true, true, true, true, false, false] ?A2 (by kernel_rfl) rfl (by kernel_rfl) (by repeat' (first | (with_reducible apply tame_then) | (with_reducible apply tame_block) | (with_reducible apply tame_scope) | exact tame_gives | exact tame_body (fun _ _ h => ⟨_, h.1⟩))) hs ?head2 ?tail2
          case head2 =>
            intro W6 ⟨⟨s0, s1, s2⟩, s3⟩
            simp only [pick]
            go_wp2
            exact taken
          case tail2 =>
            simp only [pick, List.map_cons, List.map_nil, Bool.not_true, Bool.not_false]
            refine tail_step ?_
            go_wp2
            refine holds hs ?_
            refine tail_last ?_
            obtain ⟨es', c', hrun, hE'⟩ := HE.out.put (b := bm) (w := W5.drew) HW5.out.drew.pinned d.path d.data 0 HD.out.pl
            have HE' := Lib.hid hE'
            have HRUN := Lib.hid hrun
            have HM9 := Lib.hid (HW5.out.drew.setM 0 rfl es' c' (TrE (putS st d.path d.data 0)) hE')
            clear hE' hrun hs
            go_wp2_with (first
              | (at_mapUpdate; refine wpList_updE rfl (.tmp 48) (.tmp 50) (.tmp 53) _ rfl rfl rfl rfl HRUN.out ?_)
              | fail)
            go_ret
            exact ⟨rfl, HM9.out.tl.tl.tl⟩
    · obtain rfl : r = (7, st) := by
        rw [HRR.out]; unfold buildS
        rw [if_pos (of_decide_eq_true HB1.out)]
      go_wp2
      go_ret
      exact ⟨rfl, HW3.out.tl.tl.unpin HE.out⟩
end Go.Proofs.YtfdgjbanajodfaaDoor
