/- The walk of 'do'. -/
import Derived.Test.YtdgegbdkimdpjaaMe3
import Derived.Test.YtdgegbdkimdpjaaInside
set_option linter.unusedVariables false
set_option linter.unusedSimpArgs false
namespace Go.Proofs.Ytdgegbdkimdpjaa
open Go.RowKit Go.Maps Go.MapKept

theorem LayQ.tail1 {α : Type} {w0 w : World} {r : LRow} {L : List LRow} {Q : List MRow} {e : α → TypeId} {f : α → Value} {q : α → List Value} (h : LayQ w0 w (r :: L) Q e f q) : LayQ w0 w L Q e f q :=
  ⟨⟨h.lm.lay.tail, h.lm.map, h.lm.ap⟩, h.own, h.ap, fun a k s hk => h.row a (k + 1) s hk⟩
theorem LayQ.swap1 {α : Type} {w0 w : World} {r s : LRow} {L : List LRow} {Q : List MRow} {e : α → TypeId} {f : α → Value} {q : α → List Value} (h : LayQ w0 w (r :: s :: L) Q e f q) : LayQ w0 w (s :: r :: L) Q e f q :=
  ⟨⟨h.lm.lay.swap, fun i x hi => h.lm.map i x hi, h.lm.ap⟩, h.own, h.ap, fun a k x hk => by
    rcases k with _ | _ | k
    · exact h.row a 1 x hk
    · exact h.row a 0 x hk
    · exact h.row a (k + 2) x hk⟩
theorem LayQ.deep1 {α : Type} {w0 w : World} {r : LRow} {L L' : List LRow} {Q : List MRow} {e : α → TypeId} {f : α → Value} {q : α → List Value} (h : LayQ w0 w (r :: L) Q e f q) (hL : LayQ w0 w (r :: L) Q e f q → LayQ w0 w (r :: L') Q e f q) : LayQ w0 w (r :: L') Q e f q := hL h
abbrev ptrM (q g : Nat) : LRow := blk q 43 1 (ofL [.pointer (some ⟨g, 0, none⟩)])
abbrev mvB (q : Nat) (k f t v : Int) : LRow := blk q 37 4 (ofL [.int .i64 k, .int .i64 f, .int .i64 t, .int .i64 v])
def outB (n : Nat) (i : Int) : Bool := decide (i < 0) || decide ((n : Int) ≤ i)
set_option maxHeartbeats 400000 in
theorem clM_is (b : Bool) (i : Int) (n cl q g : Nat) (AL : Option Addr) (w : World) (hN : w.cell? ⟨q, 0, none⟩ = some (.pointer (some ⟨g, 0, none⟩))) (h : w.cell? ⟨g, 0, none⟩ = some (.slice AL n cl)) (hn : n ≤ 6) (hb : outB n i = b) :
    Calls Try.prog 19 #[.int .i64 i, .pointer (some ⟨q, 0, none⟩)] w fun e w' => e = .returned (.bool b) ∧ w = w' := by
  subst hb
  by_cases h0 : i < 0
  · go_enter Try.func19, Try.ntmps19
    go_wp2
    go_ret
    exact ⟨ret_bool (by simp [outB, h0]), rfl⟩
  · by_cases h1 : (n : Int) ≤ i
    all_goals
      go_enter Try.func19, Try.ntmps19
      go_wp2
      go_ret
      exact ⟨ret_bool (by simp [outB, h0, h1]), rfl⟩
section
variable {g cl n m : Nat} {AL : Option Addr} {bm : Nat → Nat} {R : List LRow} {w0 w : World} {f : Nat → Value} {s : MeS}
theorem me_ins {a : Nat} (h : LayE g cl n m AL bm R w0 f s w) (ha : a < 2 * m) (p : Tag) (hp1 : p.1 < 1000) (hp2 : p.2 < 1000) :
    ∃ es' c', (Instr.mapUpdate 47 (.map (some (bm a))) (.agg #[.int .i64 (p.1 : Nat), .int .i64 (p.2 : Nat)]) (.bool true)).run Try.prog w = .ok () (ChangeMaps.setBlock w (bm a) (.map es' c')) ∧
      LayE g cl n m AL bm R w0 f { s with st := upd s.st a (fun q => s.st a q || decide (q = p)) } (ChangeMaps.setBlock w (bm a) (.map es' c')) := by
  obtain ⟨es, c, hb, hs⟩ := me_look h ha
  obtain ⟨es', c', h1, h2⟩ := setE_put hs hb p hp1 hp2
  exact ⟨es', c', h1, me_put h ha _ es' c' h2⟩
end
section
variable (g cl n ga : Nat) (bm : Nat → Nat) (R : List LRow) (w0 : World) (F : Nat → Value) (s : MeS) (w : World)
abbrev PostM (c : Int) (s' : MeS) (e : Ending) (w' : World) : Prop := e = .returned (.int .i64 c) ∧ LayE g cl n n (some ⟨ga, 0, none⟩) bm R w0 F s' w'
set_option maxHeartbeats 800000 in
theorem do_kind (k f t v : Int) (hk : k < 1 ∨ 4 < k) (h : LayE g cl n n (some ⟨ga, 0, none⟩) bm R w0 F s w) :
    Calls Try.prog 15 #[.pointer (some ⟨g, 0, none⟩), .agg #[.int .i64 k, .int .i64 f, .int .i64 t, .int .i64 v]] w (PostM g cl n ga bm R w0 F 6 s) := by
  have H := Lib.hid h; clear h
  have HK := Lib.hid ((((H.out.newB [.pointer (some ⟨g, 0, none⟩)] 43 1 rfl _ rfl).rot2).newB [.int .i64 k, .int .i64 f, .int .i64 t, .int .i64 v] 37 4 rfl _ rfl).rot2)
  go_enter Try.func15, Try.ntmps15
  go_wp2
  all_goals first
    | (exfalso; omega)
    | (go_ret; exact ⟨rfl, HK.out.drop2.drop2⟩)
set_option maxHeartbeats 1600000 in
theorem do_arg (k f t v : Int) (hn : n ≤ 6) (h1 : ¬ (k < 1 ∨ 4 < k)) (h2 : outB n f = true ∨ k = 4 ∧ outB n t = true) (h : LayE g cl n n (some ⟨ga, 0, none⟩) bm R w0 F s w) :
    Calls Try.prog 15 #[.pointer (some ⟨g, 0, none⟩), .agg #[.int .i64 k, .int .i64 f, .int .i64 t, .int .i64 v]] w (PostM g cl n ga bm R w0 F 2 s) := by
  have hk1 : ¬ k < 1 := fun e => h1 (.inl e)
  have hk4 : ¬ 4 < k := fun e => h1 (.inr e)
  clear h1
  by_cases hf : outB n f = true
  · have HF := Lib.hid hf
    clear h2 hf
    have H := Lib.hid h; clear h
    have HK := Lib.hid ((((H.out.newB [.pointer (some ⟨g, 0, none⟩)] 43 1 rfl _ rfl).rot2).newB [.int .i64 (k), .int .i64 (f), .int .i64 (t), .int .i64 (v)] 37 4 rfl _ rfl).rot2)
    go_enter Try.func15, Try.ntmps15
    go_wp2_with fail
    refine at_layQ (F := fun W' => Calls _ _ _ W' _) HK.out ?_
    intro W hW
    have HW : Hid (LayE g cl n n (some ⟨ga, 0, none⟩) bm (mvB (w.heap.size + 1) (k) (f) (t) (v) :: ptrM w.heap.size g :: R) w0 F s W) := Lib.hid (by rw [← size_push w (.cells #[.pointer (some ⟨g, 0, none⟩)] 43)]; exact hW)
    clear hW H HK
    generalize w.heap.size + 1 = qm at HW ⊢
    generalize w.heap.size = qn at HW ⊢
    obtain ⟨c0, c1⟩ := me_heads HW.out
    have hN : W.cell? ⟨qn, 0, none⟩ = some (.pointer (some ⟨g, 0, none⟩)) := HW.out.lay.cellB 3 rfl 0 (by omega)
    have m0 : W.cell? ⟨qm, 0, none⟩ = some (.int .i64 (k)) := HW.out.lay.cellB 2 rfl 0 (by omega)
    have m1 : W.cell? ⟨qm, 1, none⟩ = some (.int .i64 (f)) := HW.out.lay.cellB 2 rfl 1 (by omega)
    have m2 : W.cell? ⟨qm, 2, none⟩ = some (.int .i64 (t)) := HW.out.lay.cellB 2 rfl 2 (by omega)
    have m3 : W.cell? ⟨qm, 3, none⟩ = some (.int .i64 (v)) := HW.out.lay.cellB 2 rfl 3 (by omega)
    refine (clM_is true f n cl qn g _ _ hN c0 hn HF.out).mono ?_
    rintro e w3 ⟨rfl, rfl⟩
    go_wp2
    go_ret
    exact ⟨rfl, HW.out.drop2.drop2⟩
  · have hf : outB n f = false := by simpa using hf
    obtain ⟨rfl, ht⟩ : k = 4 ∧ outB n t = true := h2.elim (fun e => by rw [hf] at e; cases e) id
    have HF := Lib.hid hf
    have HT := Lib.hid ht
    obtain ⟨k, hk⟩ : ∃ k : Int, k = 4 := ⟨_, rfl⟩
    rw [← hk]
    clear h2 hf ht hk1 hk4
    have hk1 : ¬ k < 1 := by omega
    have hk4 : ¬ 4 < k := by omega
    have hkb : (k == 4) = true := by rw [beq_iff_eq]; exact hk
    clear hk
    have H := Lib.hid h; clear h
    have HK := Lib.hid ((((H.out.newB [.pointer (some ⟨g, 0, none⟩)] 43 1 rfl _ rfl).rot2).newB [.int .i64 (k), .int .i64 (f), .int .i64 (t), .int .i64 (v)] 37 4 rfl _ rfl).rot2)
    go_enter Try.func15, Try.ntmps15
    go_wp2_with fail
    refine at_layQ (F := fun W' => Calls _ _ _ W' _) HK.out ?_
    intro W hW
    have HW : Hid (LayE g cl n n (some ⟨ga, 0, none⟩) bm (mvB (w.heap.size + 1) (k) (f) (t) (v) :: ptrM w.heap.size g :: R) w0 F s W) := Lib.hid (by rw [← size_push w (.cells #[.pointer (some ⟨g, 0, none⟩)] 43)]; exact hW)
    clear hW H HK
    generalize w.heap.size + 1 = qm at HW ⊢
    generalize w.heap.size = qn at HW ⊢
    obtain ⟨c0, c1⟩ := me_heads HW.out
    have hN : W.cell? ⟨qn, 0, none⟩ = some (.pointer (some ⟨g, 0, none⟩)) := HW.out.lay.cellB 3 rfl 0 (by omega)
    have m0 : W.cell? ⟨qm, 0, none⟩ = some (.int .i64 (k)) := HW.out.lay.cellB 2 rfl 0 (by omega)
    have m1 : W.cell? ⟨qm, 1, none⟩ = some (.int .i64 (f)) := HW.out.lay.cellB 2 rfl 1 (by omega)
    have m2 : W.cell? ⟨qm, 2, none⟩ = some (.int .i64 (t)) := HW.out.lay.cellB 2 rfl 2 (by omega)
    have m3 : W.cell? ⟨qm, 3, none⟩ = some (.int .i64 (v)) := HW.out.lay.cellB 2 rfl 3 (by omega)
    refine (clM_is false f n cl qn g _ _ hN c0 hn HF.out).mono ?_
    rintro e w3 ⟨rfl, rfl⟩
    go_wp2_with fail
    refine (clM_is true t n cl qn g _ _ hN c0 hn HT.out).mono ?_
    rintro e w3 ⟨rfl, rfl⟩
    go_wp2
    go_ret
    exact ⟨rfl, HW.out.drop2.drop2⟩
set_option maxHeartbeats 1600000 in
theorem do_range (k f t v : Int) (hn : n ≤ 6) (h1 : 1 ≤ k ∧ k ≤ 2) (hf : outB n f = false) (hv : v < 0 ∨ 8 < v) (h : LayE g cl n n (some ⟨ga, 0, none⟩) bm R w0 F s w) :
    Calls Try.prog 15 #[.pointer (some ⟨g, 0, none⟩), .agg #[.int .i64 k, .int .i64 f, .int .i64 t, .int .i64 v]] w (PostM g cl n ga bm R w0 F 4 s) := by
  have HF := Lib.hid hf
  obtain ⟨hk1, hk2⟩ := h1
  have hkb : (k == 4) = false := by rw [beq_eq_false_iff_ne]; omega
  clear hf
  have H := Lib.hid h; clear h
  have HK := Lib.hid ((((H.out.newB [.pointer (some ⟨g, 0, none⟩)] 43 1 rfl _ rfl).rot2).newB [.int .i64 (k), .int .i64 (f), .int .i64 (t), .int .i64 (v)] 37 4 rfl _ rfl).rot2)
  go_enter Try.func15, Try.ntmps15
  go_wp2_with fail
  refine at_layQ (F := fun W' => Calls _ _ _ W' _) HK.out ?_
  intro W hW
  have HW : Hid (LayE g cl n n (some ⟨ga, 0, none⟩) bm (mvB (w.heap.size + 1) (k) (f) (t) (v) :: ptrM w.heap.size g :: R) w0 F s W) := Lib.hid (by rw [← size_push w (.cells #[.pointer (some ⟨g, 0, none⟩)] 43)]; exact hW)
  clear hW H HK
  generalize w.heap.size + 1 = qm at HW ⊢
  generalize w.heap.size = qn at HW ⊢
  obtain ⟨c0, c1⟩ := me_heads HW.out
  have hN : W.cell? ⟨qn, 0, none⟩ = some (.pointer (some ⟨g, 0, none⟩)) := HW.out.lay.cellB 3 rfl 0 (by omega)
  have m0 : W.cell? ⟨qm, 0, none⟩ = some (.int .i64 (k)) := HW.out.lay.cellB 2 rfl 0 (by omega)
  have m1 : W.cell? ⟨qm, 1, none⟩ = some (.int .i64 (f)) := HW.out.lay.cellB 2 rfl 1 (by omega)
  have m2 : W.cell? ⟨qm, 2, none⟩ = some (.int .i64 (t)) := HW.out.lay.cellB 2 rfl 2 (by omega)
  have m3 : W.cell? ⟨qm, 3, none⟩ = some (.int .i64 (v)) := HW.out.lay.cellB 2 rfl 3 (by omega)
  refine (clM_is false f n cl qn g _ _ hN c0 hn HF.out).mono ?_
  rintro e w3 ⟨rfl, rfl⟩
  go_wp2
  all_goals first
    | (exfalso; omega)
    | (go_ret; exact ⟨rfl, HW.out.drop2.drop2⟩)
set_option maxHeartbeats 1600000 in
theorem do_up0 (f : Nat) (t v : Int) (hn : n ≤ 6) (hf : f < n) (hv : v ≠ 1 ∧ v ≠ -1) (h : LayE g cl n n (some ⟨ga, 0, none⟩) bm R w0 F s w) :
    Calls Try.prog 15 #[.pointer (some ⟨g, 0, none⟩), .agg #[.int .i64 3, .int .i64 (f : Nat), .int .i64 t, .int .i64 v]] w (PostM g cl n ga bm R w0 F 4 s) := by
  have HF : Hid (outB n (f : Nat) = false) := Lib.hid (by simp [outB]; omega)
  have v1 : (v == 1) = false := beq_eq_false_iff_ne.2 hv.1
  have v2 : (v == -1) = false := beq_eq_false_iff_ne.2 hv.2
  clear hv
  have H := Lib.hid h; clear h
  have HK := Lib.hid ((((H.out.newB [.pointer (some ⟨g, 0, none⟩)] 43 1 rfl _ rfl).rot2).newB [.int .i64 (3), .int .i64 ((f : Nat)), .int .i64 (t), .int .i64 (v)] 37 4 rfl _ rfl).rot2)
  go_enter Try.func15, Try.ntmps15
  go_wp2_with fail
  refine at_layQ (F := fun W' => Calls _ _ _ W' _) HK.out ?_
  intro W hW
  have HW : Hid (LayE g cl n n (some ⟨ga, 0, none⟩) bm (mvB (w.heap.size + 1) (3) ((f : Nat)) (t) (v) :: ptrM w.heap.size g :: R) w0 F s W) := Lib.hid (by rw [← size_push w (.cells #[.pointer (some ⟨g, 0, none⟩)] 43)]; exact hW)
  clear hW H HK
  generalize w.heap.size + 1 = qm at HW ⊢
  generalize w.heap.size = qn at HW ⊢
  obtain ⟨c0, c1⟩ := me_heads HW.out
  have hN : W.cell? ⟨qn, 0, none⟩ = some (.pointer (some ⟨g, 0, none⟩)) := HW.out.lay.cellB 3 rfl 0 (by omega)
  have m0 : W.cell? ⟨qm, 0, none⟩ = some (.int .i64 (3)) := HW.out.lay.cellB 2 rfl 0 (by omega)
  have m1 : W.cell? ⟨qm, 1, none⟩ = some (.int .i64 ((f : Nat))) := HW.out.lay.cellB 2 rfl 1 (by omega)
  have m2 : W.cell? ⟨qm, 2, none⟩ = some (.int .i64 (t)) := HW.out.lay.cellB 2 rfl 2 (by omega)
  have m3 : W.cell? ⟨qm, 3, none⟩ = some (.int .i64 (v)) := HW.out.lay.cellB 2 rfl 3 (by omega)
  refine (clM_is false (f : Nat) n cl qn g _ _ hN c0 hn HF.out).mono ?_
  rintro e w3 ⟨rfl, rfl⟩
  go_wp2
  refine wp_text_all (by kernel_rfl) (by kernel_rfl) (by kernel_rfl) (by repeat' (first | (with_reducible apply tame_then) | (with_reducible apply tame_block) | (with_reducible apply tame_scope) | exact tame_gives | exact tame_body (fun _ _ h => ⟨_, h.1⟩))) ?_
  go_wp2
  refine headed ?_
  go_wp2
  go_ret
  exact ⟨rfl, HW.out.drew.drop2.drop2⟩
set_option maxHeartbeats 1600000 in
theorem do_up1 (f : Nat) (t : Int) (hn1 : 1 ≤ n) (hn : n ≤ 6) (hf : f < n) (hbd : MeB 59 s) (h : LayE g cl n n (some ⟨ga, 0, none⟩) bm R w0 F s w) :
    Calls Try.prog 15 #[.pointer (some ⟨g, 0, none⟩), .agg #[.int .i64 3, .int .i64 (f : Nat), .int .i64 t, .int .i64 (1)]] w (PostM g cl n ga bm R w0 F 0 (meUp s (2 * f) f)) := by
  have HF : Hid (outB n (f : Nat) = false) := Lib.hid (by simp [outB]; omega)
  have hbd := hbd.ct (2 * f) f
  have H := Lib.hid h; clear h
  have HK := Lib.hid ((((H.out.newB [.pointer (some ⟨g, 0, none⟩)] 43 1 rfl _ rfl).rot2).newB [.int .i64 (3), .int .i64 ((f : Nat)), .int .i64 (t), .int .i64 ((1))] 37 4 rfl _ rfl).rot2)
  go_enter Try.func15, Try.ntmps15
  go_wp2_with fail
  refine at_layQ (F := fun W' => Calls _ _ _ W' _) HK.out ?_
  intro W hW
  have HW : Hid (LayE g cl n n (some ⟨ga, 0, none⟩) bm (mvB (w.heap.size + 1) (3) ((f : Nat)) (t) ((1)) :: ptrM w.heap.size g :: R) w0 F s W) := Lib.hid (by rw [← size_push w (.cells #[.pointer (some ⟨g, 0, none⟩)] 43)]; exact hW)
  clear hW H HK
  generalize w.heap.size + 1 = qm at HW ⊢
  generalize w.heap.size = qn at HW ⊢
  obtain ⟨c0, c1⟩ := me_heads HW.out
  have hN : W.cell? ⟨qn, 0, none⟩ = some (.pointer (some ⟨g, 0, none⟩)) := HW.out.lay.cellB 3 rfl 0 (by omega)
  have m0 : W.cell? ⟨qm, 0, none⟩ = some (.int .i64 (3)) := HW.out.lay.cellB 2 rfl 0 (by omega)
  have m1 : W.cell? ⟨qm, 1, none⟩ = some (.int .i64 ((f : Nat))) := HW.out.lay.cellB 2 rfl 1 (by omega)
  have m2 : W.cell? ⟨qm, 2, none⟩ = some (.int .i64 (t)) := HW.out.lay.cellB 2 rfl 2 (by omega)
  have m3 : W.cell? ⟨qm, 3, none⟩ = some (.int .i64 ((1))) := HW.out.lay.cellB 2 rfl 3 (by omega)
  refine (clM_is false (f : Nat) n cl qn g _ _ hN c0 hn HF.out).mono ?_
  rintro e w3 ⟨rfl, rfl⟩
  obtain ⟨c2, c3, c4, c5⟩ := me_rep HW.out hf
  obtain ⟨b1, o1, p1, e1, l1, q1, v1, z1⟩ := me_ct HW.out (show 2 * f < 2 * n by omega) hn1
  rw [e1] at c4
  have x1 := v1 f hf
  have y1 := z1 (o1 + f)
  have HL := Lib.hid (me_tick (x := s.ct (2 * f) f + 1) HW.out.drew.drew (show 2 * f < 2 * n by omega) e1 hf)
  clear v1 z1 e1
  have HL2 : Hid (LayE g cl n n (some ⟨ga, 0, none⟩) bm (mvB qm 3 (f : Nat) t (1) :: ptrM qn g :: R) w0 F (meUp s (2 * f) f) (W.drew.drew.setCell ⟨b1, o1 + f, none⟩ (.int .i64 ((s.ct (2 * f) f + 1 : Nat) : Int)))) := HL
  clear HL HW
  have hcast : ((s.ct (2 * f) f + 1 : Nat) : Int) = ((s.ct (2 * f) f : Nat) : Int) + 1 := by omega
  rw [hcast] at HL2
  clear hcast
  have hu0 : (0 : Int) ≤ ((s.ct (2 * f) f : Nat) : Int) := by omega
  have hu1 : ((s.ct (2 * f) f : Nat) : Int) ≤ 59 := by omega
  clear hbd
  generalize ((s.ct (2 * f) f : Nat) : Int) = u at x1 HL2 hu0 hu1
  go_wp2
  refine wp_text_all (by kernel_rfl) (by kernel_rfl) (by kernel_rfl) (by repeat' (first | (with_reducible apply tame_then) | (with_reducible apply tame_block) | (with_reducible apply tame_scope) | exact tame_gives | exact tame_body (fun _ _ h => ⟨_, h.1⟩))) ?_
  go_wp2
  refine headed ?_
  go_wp2
  refine wp_text 10 (by kernel_rfl) (by kernel_rfl) (by kernel_rfl) (by repeat' (first | (with_reducible apply tame_then) | (with_reducible apply tame_block) | (with_reducible apply tame_scope) | exact tame_gives | exact tame_body (fun _ _ h => ⟨_, h.1⟩))) ?_
  simp only [List.take_succ_cons, List.take_zero, List.drop_succ_cons, List.drop_zero]
  go_wp2
  refine headed ?_
  go_wp2
  go_ret
  exact ⟨rfl, HL2.out.drop2.drop2⟩
set_option maxHeartbeats 1600000 in
theorem do_up2 (f : Nat) (t : Int) (hn1 : 1 ≤ n) (hn : n ≤ 6) (hf : f < n) (hbd : MeB 59 s) (h : LayE g cl n n (some ⟨ga, 0, none⟩) bm R w0 F s w) :
    Calls Try.prog 15 #[.pointer (some ⟨g, 0, none⟩), .agg #[.int .i64 3, .int .i64 (f : Nat), .int .i64 t, .int .i64 (-1)]] w (PostM g cl n ga bm R w0 F 0 (meUp s (2 * f + 1) f)) := by
  have HF : Hid (outB n (f : Nat) = false) := Lib.hid (by simp [outB]; omega)
  have hbd := hbd.ct (2 * f + 1) f
  have H := Lib.hid h; clear h
  have HK := Lib.hid ((((H.out.newB [.pointer (some ⟨g, 0, none⟩)] 43 1 rfl _ rfl).rot2).newB [.int .i64 (3), .int .i64 ((f : Nat)), .int .i64 (t), .int .i64 ((-1))] 37 4 rfl _ rfl).rot2)
  go_enter Try.func15, Try.ntmps15
  go_wp2_with fail
  refine at_layQ (F := fun W' => Calls _ _ _ W' _) HK.out ?_
  intro W hW
  have HW : Hid (LayE g cl n n (some ⟨ga, 0, none⟩) bm (mvB (w.heap.size + 1) (3) ((f : Nat)) (t) ((-1)) :: ptrM w.heap.size g :: R) w0 F s W) := Lib.hid (by rw [← size_push w (.cells #[.pointer (some ⟨g, 0, none⟩)] 43)]; exact hW)
  clear hW H HK
  generalize w.heap.size + 1 = qm at HW ⊢
  generalize w.heap.size = qn at HW ⊢
  obtain ⟨c0, c1⟩ := me_heads HW.out
  have hN : W.cell? ⟨qn, 0, none⟩ = some (.pointer (some ⟨g, 0, none⟩)) := HW.out.lay.cellB 3 rfl 0 (by omega)
  have m0 : W.cell? ⟨qm, 0, none⟩ = some (.int .i64 (3)) := HW.out.lay.cellB 2 rfl 0 (by omega)
  have m1 : W.cell? ⟨qm, 1, none⟩ = some (.int .i64 ((f : Nat))) := HW.out.lay.cellB 2 rfl 1 (by omega)
  have m2 : W.cell? ⟨qm, 2, none⟩ = some (.int .i64 (t)) := HW.out.lay.cellB 2 rfl 2 (by omega)
  have m3 : W.cell? ⟨qm, 3, none⟩ = some (.int .i64 ((-1))) := HW.out.lay.cellB 2 rfl 3 (by omega)
  refine (clM_is false (f : Nat) n cl qn g _ _ hN c0 hn HF.out).mono ?_
  rintro e w3 ⟨rfl, rfl⟩
  obtain ⟨c2, c3, c4, c5⟩ := me_rep HW.out hf
  obtain ⟨b1, o1, p1, e1, l1, q1, v1, z1⟩ := me_ct HW.out (show 2 * f + 1 < 2 * n by omega) hn1
  rw [e1] at c5
  have x1 := v1 f hf
  have y1 := z1 (o1 + f)
  have HL := Lib.hid (me_tick (x := s.ct (2 * f + 1) f + 1) HW.out.drew.drew (show 2 * f + 1 < 2 * n by omega) e1 hf)
  clear v1 z1 e1
  have HL2 : Hid (LayE g cl n n (some ⟨ga, 0, none⟩) bm (mvB qm 3 (f : Nat) t (-1) :: ptrM qn g :: R) w0 F (meUp s (2 * f + 1) f) (W.drew.drew.setCell ⟨b1, o1 + f, none⟩ (.int .i64 ((s.ct (2 * f + 1) f + 1 : Nat) : Int)))) := HL
  clear HL HW
  have hcast : ((s.ct (2 * f + 1) f + 1 : Nat) : Int) = ((s.ct (2 * f + 1) f : Nat) : Int) + 1 := by omega
  rw [hcast] at HL2
  clear hcast
  have hu0 : (0 : Int) ≤ ((s.ct (2 * f + 1) f : Nat) : Int) := by omega
  have hu1 : ((s.ct (2 * f + 1) f : Nat) : Int) ≤ 59 := by omega
  clear hbd
  generalize ((s.ct (2 * f + 1) f : Nat) : Int) = u at x1 HL2 hu0 hu1
  go_wp2
  refine wp_text_all (by kernel_rfl) (by kernel_rfl) (by kernel_rfl) (by repeat' (first | (with_reducible apply tame_then) | (with_reducible apply tame_block) | (with_reducible apply tame_scope) | exact tame_gives | exact tame_body (fun _ _ h => ⟨_, h.1⟩))) ?_
  go_wp2
  refine headed ?_
  go_wp2
  refine wp_text 10 (by kernel_rfl) (by kernel_rfl) (by kernel_rfl) (by repeat' (first | (with_reducible apply tame_then) | (with_reducible apply tame_block) | (with_reducible apply tame_scope) | exact tame_gives | exact tame_body (fun _ _ h => ⟨_, h.1⟩))) ?_
  simp only [List.take_succ_cons, List.take_zero, List.drop_succ_cons, List.drop_zero]
  go_wp2
  refine headed ?_
  go_wp2
  go_ret
  exact ⟨rfl, HL2.out.drop2.drop2⟩
set_option maxHeartbeats 1600000 in
theorem do_join (f t : Nat) (v : Int) (hn1 : 1 ≤ n) (hn : n ≤ 6) (hf : f < n) (ht : t < n) (hbd : MeB 60 s) (h : LayE g cl n n (some ⟨ga, 0, none⟩) bm R w0 F s w) :
    Calls Try.prog 15 #[.pointer (some ⟨g, 0, none⟩), .agg #[.int .i64 4, .int .i64 (f : Nat), .int .i64 (t : Nat), .int .i64 v]] w (PostM g cl n ga bm R w0 F 0 (meJoin s f t)) := by
  have HF : Hid (outB n (f : Nat) = false) := Lib.hid (by simp [outB]; omega)
  have HT : Hid (outB n (t : Nat) = false) := Lib.hid (by simp [outB]; omega)
  have HBD := Lib.hid hbd; clear hbd
  have H := Lib.hid h; clear h
  have HK := Lib.hid ((((H.out.newB [.pointer (some ⟨g, 0, none⟩)] 43 1 rfl _ rfl).rot2).newB [.int .i64 (4), .int .i64 ((f : Nat)), .int .i64 ((t : Nat)), .int .i64 (v)] 37 4 rfl _ rfl).rot2)
  go_enter Try.func15, Try.ntmps15
  go_wp2_with fail
  refine at_layQ (F := fun W' => Calls _ _ _ W' _) HK.out ?_
  intro W hW
  have HW : Hid (LayE g cl n n (some ⟨ga, 0, none⟩) bm (mvB (w.heap.size + 1) (4) ((f : Nat)) ((t : Nat)) (v) :: ptrM w.heap.size g :: R) w0 F s W) := Lib.hid (by rw [← size_push w (.cells #[.pointer (some ⟨g, 0, none⟩)] 43)]; exact hW)
  clear hW H HK
  generalize w.heap.size + 1 = qm at HW ⊢
  generalize w.heap.size = qn at HW ⊢
  obtain ⟨c0, c1⟩ := me_heads HW.out
  have hN : W.cell? ⟨qn, 0, none⟩ = some (.pointer (some ⟨g, 0, none⟩)) := HW.out.lay.cellB 3 rfl 0 (by omega)
  have m0 : W.cell? ⟨qm, 0, none⟩ = some (.int .i64 (4)) := HW.out.lay.cellB 2 rfl 0 (by omega)
  have m1 : W.cell? ⟨qm, 1, none⟩ = some (.int .i64 ((f : Nat))) := HW.out.lay.cellB 2 rfl 1 (by omega)
  have m2 : W.cell? ⟨qm, 2, none⟩ = some (.int .i64 ((t : Nat))) := HW.out.lay.cellB 2 rfl 2 (by omega)
  have m3 : W.cell? ⟨qm, 3, none⟩ = some (.int .i64 (v)) := HW.out.lay.cellB 2 rfl 3 (by omega)
  refine (clM_is false (f : Nat) n cl qn g _ _ hN c0 hn HF.out).mono ?_
  rintro e w3 ⟨rfl, rfl⟩
  go_wp2_with fail
  refine (clM_is false (t : Nat) n cl qn g _ _ hN c0 hn HT.out).mono ?_
  rintro e w3 ⟨rfl, rfl⟩
  go_wp2
  refine wp_text_all (by kernel_rfl) (by kernel_rfl) (by kernel_rfl) (by repeat' (first | (with_reducible apply tame_then) | (with_reducible apply tame_block) | (with_reducible apply tame_scope) | exact tame_gives | exact tame_body (fun _ _ h => ⟨_, h.1⟩))) ?_
  go_wp2
  refine headed ?_
  go_wp2
  refine wp_text 8 (by kernel_rfl) (by kernel_rfl) (by kernel_rfl) (by repeat' (first | (with_reducible apply tame_then) | (with_reducible apply tame_block) | (with_reducible apply tame_scope) | exact tame_gives | exact tame_body (fun _ _ h => ⟨_, h.1⟩))) ?_
  simp only [List.take_succ_cons, List.take_zero, List.drop_succ_cons, List.drop_zero]
  go_wp2
  refine headed ?_
  go_wp2_with fail
  refine (join_any g cl n n ga f t bm _ w0 F s _ hn1 hn hf ht HBD.out HW.out.drew.drew).mono ?_
  rintro e w4 ⟨rfl, h4⟩
  have H4 := Lib.hid h4
  clear h4
  go_wp2
  go_ret
  exact ⟨rfl, H4.out.drop2.drop2⟩
set_option maxHeartbeats 1600000 in
theorem do_add (f v : Nat) (t : Int) (hn : n ≤ 6) (hf : f < n) (hv : v ≤ 8) (hbd : MeB 59 s) (h : LayE g cl n n (some ⟨ga, 0, none⟩) bm R w0 F s w) :
    Calls Try.prog 15 #[.pointer (some ⟨g, 0, none⟩), .agg #[.int .i64 1, .int .i64 (f : Nat), .int .i64 t, .int .i64 (v : Nat)]] w (PostM g cl n ga bm R w0 F 0 (meAdd s f v)) := by
  have HF : Hid (outB n (f : Nat) = false) := Lib.hid (by simp [outB]; omega)
  have htg := hbd.tags
  clear hbd
  have H := Lib.hid h; clear h
  have HK := Lib.hid ((((H.out.newB [.pointer (some ⟨g, 0, none⟩)] 43 1 rfl _ rfl).rot2).newB [.int .i64 (1), .int .i64 ((f : Nat)), .int .i64 (t), .int .i64 ((v : Nat))] 37 4 rfl _ rfl).rot2)
  go_enter Try.func15, Try.ntmps15
  go_wp2_with fail
  refine at_layQ (F := fun W' => Calls _ _ _ W' _) HK.out ?_
  intro W hW
  have HW : Hid (LayE g cl n n (some ⟨ga, 0, none⟩) bm (mvB (w.heap.size + 1) (1) ((f : Nat)) (t) ((v : Nat)) :: ptrM w.heap.size g :: R) w0 F s W) := Lib.hid (by rw [← size_push w (.cells #[.pointer (some ⟨g, 0, none⟩)] 43)]; exact hW)
  clear hW H HK
  generalize w.heap.size + 1 = qm at HW ⊢
  generalize w.heap.size = qn at HW ⊢
  obtain ⟨c0, c1⟩ := me_heads HW.out
  have hN : W.cell? ⟨qn, 0, none⟩ = some (.pointer (some ⟨g, 0, none⟩)) := HW.out.lay.cellB 3 rfl 0 (by omega)
  have m0 : W.cell? ⟨qm, 0, none⟩ = some (.int .i64 (1)) := HW.out.lay.cellB 2 rfl 0 (by omega)
  have m1 : W.cell? ⟨qm, 1, none⟩ = some (.int .i64 ((f : Nat))) := HW.out.lay.cellB 2 rfl 1 (by omega)
  have m2 : W.cell? ⟨qm, 2, none⟩ = some (.int .i64 (t)) := HW.out.lay.cellB 2 rfl 2 (by omega)
  have m3 : W.cell? ⟨qm, 3, none⟩ = some (.int .i64 ((v : Nat))) := HW.out.lay.cellB 2 rfl 3 (by omega)
  refine (clM_is false (f : Nat) n cl qn g _ _ hN c0 hn HF.out).mono ?_
  rintro e w3 ⟨rfl, rfl⟩
  have HL1 : Hid (LayE g cl n n (some ⟨ga, 0, none⟩) bm (mvB qm 1 (f : Nat) t (v : Nat) :: ptrM qn g :: R) w0 F { s with tags := s.tags + 1 } (W.drew.setCell ⟨g, 1, none⟩ (.int .i64 ((s.tags : Int) + 1)))) := Lib.hid (by
    have hcast : ((s.tags + 1 : Nat) : Int) = (s.tags : Int) + 1 := by omega
    rw [← hcast]
    exact HW.out.drew.fld 0 1 (.int .i64 ((s.tags + 1 : Nat) : Int)) rfl (by omega) (by simp))
  have hfz := HW.out.lay.frz 0 rfl (by omega) 1
  clear HW
  go_wp2
  refine wp_text_all (by kernel_rfl) (by kernel_rfl) (by kernel_rfl) (by repeat' (first | (with_reducible apply tame_then) | (with_reducible apply tame_block) | (with_reducible apply tame_scope) | exact tame_gives | exact tame_body (fun _ _ h => ⟨_, h.1⟩))) ?_
  go_wp2
  refine headed ?_
  go_wp2
  refine at_layQ (F := fun W' => Code.wp _ _ _ _ W') HL1.out ?_
  intro W5 hW5
  have H5 := Lib.hid hW5
  clear hW5 HL1 hfz
  obtain ⟨c2, c3, c4, c5⟩ := me_rep H5.out hf
  have s2 : W5.cell? ⟨qn, 0, none⟩ = some (.pointer (some ⟨g, 0, none⟩)) := H5.out.lay.cellB 3 rfl 0 (by omega)
  have s3 : W5.cell? ⟨qm, 3, none⟩ = some (.int .i64 (v : Nat)) := H5.out.lay.cellB 2 rfl 3 (by omega)
  have s4 : W5.cell? ⟨g, 1, none⟩ = some (.int .i64 ((s.tags + 1 : Nat) : Int)) := H5.out.lay.cellB 0 rfl 1 (by omega)
  obtain ⟨es', k', hput, hL⟩ := me_ins (a := 2 * f) H5.out.drew (show 2 * f < 2 * n by omega) (v, s.tags + 1) (show v < 1000 by omega) (show s.tags + 1 < 1000 by omega)
  have HL := Lib.hid hL
  clear hL c3 c4 c5 hN m0 m1 m2 m3 c0 c1
  have hput : (Instr.mapUpdate 47 (.map (some (bm (2 * f)))) (.agg #[.int .i64 (v : Nat), .int .i64 ((s.tags + 1 : Nat) : Int)]) (.bool true)).run Try.prog W5.drew = .ok () (ChangeMaps.setBlock W5.drew (bm (2 * f)) (.map es' k')) := hput
  generalize ((s.tags + 1 : Nat) : Int) = tg at s4 hput
  have HPUT := Lib.hid hput
  clear hput
  refine wp_held_mask (fun W => W.cell? ⟨ga, f * 4, none⟩ = some (.map (some (bm (2 * f)))) ∧ W.cell? ⟨qn, 0, none⟩ = some (.pointer (some ⟨g, 0, none⟩)) ∧ W.cell? ⟨qm, 3, none⟩ = some (.int .i64 (v : Nat)) ∧ W.cell? ⟨g, 1, none⟩ = some (.int .i64 tg)) [true, true, true, true, true, true, true, true, true, true, false, false] ?A1 (by kernel_rfl) rfl (by kernel_rfl) (by repeat' (first | (with_reducible apply tame_then) | (with_reducible apply tame_block) | (with_reducible apply tame_scope) | exact tame_gives | exact tame_body (fun _ _ h => ⟨_, h.1⟩))) ⟨c2, s2, s3, s4⟩ ?head ?tail
  case head =>
    intro W6 ⟨x1, x2, x3, x4⟩
    simp only [pick]
    go_wp2
    exact taken
  case tail =>
    simp only [pick, List.map_cons, List.map_nil, Bool.not_true, Bool.not_false]
    refine tail_step ?_
    go_wp2
    refine holds ⟨c2, s2, s3, s4⟩ ?_
    refine tail_last ?_
    refine wpList_updE rfl (.tmp 71) (.tmp 78) (.const (.bool true)) _ rfl rfl rfl rfl HPUT.out ?_
    go_wp2
    go_ret
    exact ⟨rfl, HL.out.drop2.drop2⟩
end
end Go.Proofs.Ytdgegbdkimdpjaa
