/- The law TreeBack, walked. -/
import Derived.Test.YtfkfljiinnlilaaDoorTrBackL
import Derived.Test.YtfkfljiinnlilaaDoorTrOpen
import Derived.Test.YtfkfljiinnlilaaDoorApK
set_option linter.unusedVariables false
set_option linter.unusedSimpArgs false
namespace Go.Proofs.YtfkfljiinnlilaaDoor
open Go.RowKit
abbrev deedV (d : Deed) : Value := .agg #[.int .i64 d.kind, .string (bs d.path), .string (bs d.data), .int .i64 d.version]
set_option maxRecDepth 100000 in
set_option maxHeartbeats 1600000 in
theorem treeBack_bad (m cap : Nat) (A : Option Addr) (D : Nat → Deed) (p : Str) (d : Deed) (w : World) (hm : 57 < m) (hb : m * 48 ≤ 140737488351232) (hr : Rd w w.heap.size A (m * 4) (ddF D)) :
    Calls Tryd.prog 5 #[.slice A m cap, .string (bs p), deedV d] w fun e w' => e = .returned (.bool true) ∧ Below w.heap.size w w' := by
  have HR := Lib.hid hr; clear hr
  go_enter Tryd.func5, Tryd.ntmps5
  go_upto_region 2 with (fail)
  refine at_world (F := fun W' => Code.wp _ _ _ _ W') (fun W => Rd W W.heap.size A (m * 4) (ddF D) ∧ Below w.heap.size w W) ⟨?h1, (Below.refl _ _).alloc (Nat.le_refl _) _⟩ ?_
  case h1 => exact (HR.out.alloc (Nat.le_refl _) _).more (by simp)
  rintro W ⟨hR, hB⟩
  have HR := Lib.hid hR
  have HB := Lib.hid hB
  clear hR hB
  go_wp2_with (first
    | (at_builtin; refine wpList_apDs rfl (.tmp 18) (.tmp 19) rfl W.heap.size rfl (Own.empty _ _ _ _ (ddF (fun _ => Dz)) _ (by simp) (by simp)) rfl (HR.out.alloc (Nat.le_refl _) _) m (Nat.zero_add m) (by unfold maxLen; omega) (by omega) (by simp) ?_; intro A3 c3 w3 ho3 hg3 ha3
       have HL3 : Hid (Lay W w3 [dds A3 m c3 (appD (fun _ => Dz) 0 D)]) := (((Lay.nil W).new #[] 28 4 0 (ddF (fun _ => Dz)) _ rfl rfl (by unfold maxLen; omega) (fun j hj => absurd hj (by omega))).app 0 rfl ho3 hg3 ha3)
       rw [appD_zero] at HL3
       clear ho3 hg3 ha3)
    | (at_builtin; refine wpList_apDs rfl (.tmp 20) (.tmp 25) rfl W.heap.size rfl ((HL3.out.alloc _).own 0 _ rfl) rfl (new_deeds w3 [Dz, Dz, Dz, Dz] _) (m + 4) rfl (by unfold maxLen; omega) (by omega) (HL3.out.alloc _).size ?_; intro A5 c5 w5 ho5 hg5 ha5
       have HL5 := Lib.hid ((HL3.out.alloc _).app 0 rfl ho5 hg5 ha5)
       clear ho5 hg5 ha5 HL3)
    | fail)
  refine (play_bad (m + 4) c5 A5 w5 (by unfold maxLen; omega) (by omega)).mono ?_
  rintro e w6 ⟨rfl, rfl⟩
  go_wp2
  go_ret
  exact ⟨rfl, HB.out.trans (HL5.out.bel.mono HB.out.size)⟩
def hd4 (B : Nat) (A : Option Addr) (m cap : Nat) (D : Nat → Deed) (d : Deed) : Nat → Value → Nat → World → Prop
  | 0 => isEmp B 28
  | 1 => isV (.slice A m cap)
  | 2 => isOwn B 28 4 m (ddF D)
  | 3 => isV (deedV d)
  | _ => isRd 1 4 (ddF (lsD [d]))
theorem hd4_keep (B : Nat) (A : Option Addr) (m cap : Nat) (D : Nat → Deed) (d : Deed) (i : Nat) (v : Value) (g : Nat) (w1 w2 : World) (h : hd4 B A m cap D d i v g w1) (hb : Below w1.heap.size w1 w2) : hd4 B A m cap D d i v g w2 := by
  rcases i with _ | _ | _ | _ | i
  · exact isEmp_keep h hb
  · exact h
  · exact isOwn_keep (g := g) h hb
  · exact h
  · exact isRd_keep h hb
def hd5 (B : Nat) (A : Option Addr) (m cap : Nat) (D : Nat → Deed) (p : Str) (d : Deed) : Nat → Value → Nat → World → Prop
  | 0 => isEmp B 28
  | 1 => isV (.slice A m cap)
  | 2 => isOwn B 28 4 m (ddF D)
  | 3 => isV (.string (bs p))
  | 4 => isV (deedV ⟨1, p, [], 0⟩)
  | 5 => isV (.string (bs p))
  | 6 => isV (deedV ⟨3, p, [], 0⟩)
  | 7 => isV (deedV d)
  | _ => isRd 3 12 (ddF (lsD [⟨1, p, [], 0⟩, ⟨3, p, [], 0⟩, d]))
theorem hd5_keep (B : Nat) (A : Option Addr) (m cap : Nat) (D : Nat → Deed) (p : Str) (d : Deed) (i : Nat) (v : Value) (g : Nat) (w1 w2 : World) (h : hd5 B A m cap D p d i v g w1) (hb : Below w1.heap.size w1 w2) : hd5 B A m cap D p d i v g w2 := by
  rcases i with _ | _ | _ | _ | _ | _ | _ | _ | i
  · exact isEmp_keep h hb
  · exact h
  · exact isOwn_keep (g := g) h hb
  · exact h
  · exact h
  · exact h
  · exact h
  · exact h
  · exact isRd_keep h hb
set_option maxRecDepth 100000 in
set_option maxHeartbeats 3200000 in
theorem treeBack_good (m cap : Nat) (A : Option Addr) (D : Nat → Deed) (p : Str) (d : Deed) (w : World) (hm : m ≤ 57) (hD : ∀ i, i < m → DeedL (D i)) (hp : p.length ≤ 140737488351232) (hd : DeedL d) (hr : Rd w w.heap.size A (m * 4) (ddF D)) :
    Calls Tryd.prog 5 #[.slice A m cap, .string (bs p), deedV d] w fun e w' => e = .returned (.bool true) ∧ Below w.heap.size w w' := by
  have HR := Lib.hid hr
  have HD1 : Hid (∀ i, i < m + 1 → DeedL (appD D m (lsD [d]) i)) := Lib.hid (appD_L (l := [d]) hD fun x hx => by obtain rfl := List.mem_singleton.1 hx; exact hd)
  have HD3 : Hid (∀ i, i < m + 3 → DeedL (appD D m (lsD [⟨1, p, [], 0⟩, ⟨3, p, [], 0⟩, d]) i)) := Lib.hid (appD_L (l := [⟨1, p, [], 0⟩, ⟨3, p, [], 0⟩, d]) hD fun x hx => by
    rcases List.mem_cons.1 hx with rfl | hx
    · exact ⟨hp, by show (0 : Nat) ≤ _; omega⟩
    · rcases List.mem_cons.1 hx with rfl | hx
      · exact ⟨hp, by show (0 : Nat) ≤ _; omega⟩
      · obtain rfl := List.mem_singleton.1 hx; exact hd)
  have HLAW := Lib.hid (backLaw (run_ok D m hD) p d)
  have HLEN : Hid ((doS (runS T0 D m) d).1.names.length ≤ 12) := Lib.hid (ans_len (run_ok D m hD) _)
  obtain ⟨iT, hiT, hz0, hz1, hz2⟩ := info_parts infoDeed
  clear hr hD hp hd
  go_enter Tryd.func5, Tryd.ntmps5
  go_upto_region 4 with (fail)
  refine at_world (F := fun W' => Code.wp _ _ _ _ W') (fun W => Rd W W.heap.size A (m * 4) (ddF D) ∧ Lay w W [blk w.heap.size 28 4 (ofL (cellsD d))]) ⟨?h1, (Lay.nil w).newB (cellsD d) 28 4 rfl _ rfl⟩ ?_
  case h1 => exact (HR.out.alloc (Nat.le_refl _) _).more (by simp)
  rintro W ⟨hR, hL⟩
  clear HR
  have HR := Lib.hid hR
  have HW := Lib.hid hL
  clear hR hL
  generalize w.heap.size = tb at HW ⊢
  have c0 := HW.out.cellB 0 rfl 0 (by omega)
  have c1 := HW.out.cellB 0 rfl 1 (by omega)
  have c2 := HW.out.cellB 0 rfl 2 (by omega)
  have c3 := HW.out.cellB 0 rfl 3 (by omega)
  simp only [cellsD, ofL_0, ofL_1, ofL_2, ofL_3] at c0 c1 c2 c3
  have htb := (HW.out.at_ 0 rfl).2
  refine wp_newFK (P := Tryd.prog) [0, 1, 2, 3, 4] [33, 34, 35, 36, 37] [5, 6, 7] [8, 9, 10, 11] 5 8 (fun _ => false) (hd4 W.heap.size A m cap D d) (by kernel_rfl) (by kernel_rfl) (by repeat' (first | (with_reducible apply tame_then) | (with_reducible apply tame_block) | (with_reducible apply tame_scope) | exact tame_gives | exact tame_body (fun _ _ h => ⟨_, h.1⟩))) rfl rfl (by kernel_rfl) (by kernel_rfl) (by kernel_rfl) (by kernel_rfl) (by decide) (by kernel_rfl) (hd4_keep _ _ _ _ _ _) ?ext ?fin
  case ext =>
    intro k hk o ho a w2 hb hold hf
    simp only [List.mem_cons, List.not_mem_nil, or_false] at hk
    rcases hk with rfl | rfl | rfl | rfl | rfl
    all_goals cases ho
    · exact doesN (.slice (some ⟨w2.heap.size, 0, none⟩) 0 0) (.cells #[] 28) (by go_simp) ⟨rfl, hb.size, heap_alloc_new _ _⟩
    · have h0 : a.tmps[0]?.getD undef = .slice A m cap := hold 0 (by decide)
      exact doesK (.slice A m cap) (by go_simp) rfl
    · obtain ⟨g0, h0, h0b, h0c⟩ := hf 0 33 (by kernel_rfl) (by kernel_rfl)
      obtain ⟨g1, h1⟩ := hf 1 (33 + 1) (by kernel_rfl) (by kernel_rfl)
      have h1 : a.tmps[33 + 1]?.getD undef = .slice A m cap := h1
      exact doesO (Φ := fun v w => ∃ A' c', v = .slice A' m c' ∧ Own w W.heap.size 28 4 A' m c' (ddF D)) (does_ap0 (.tmp 33) (.tmp (33 + 1)) 22 rfl 28 iT _ 4 48 Tryd.underlying22 hiT hz0 hz1 hz2 rfl (by omega) W.heap.size g0 h0c h0b hb.size (eval_tmp h0) (eval_tmp h1) (HR.out.below hb) (fun j _ => ddF_one D j) (by unfold maxLen; omega) (by omega))
    · have c0 := (hb.cell (p := ⟨tb, 0, none⟩) htb).trans c0
      have c1 := (hb.cell (p := ⟨tb, 1, none⟩) htb).trans c1
      have c2 := (hb.cell (p := ⟨tb, 2, none⟩) htb).trans c2
      have c3 := (hb.cell (p := ⟨tb, 3, none⟩) htb).trans c3
      have h0 : a.tmps[5]?.getD undef = .pointer (some ⟨tb, 0, none⟩) := hold 5 (by decide)
      exact doesK (deedV d) (by go_simp) rfl
    · obtain ⟨g3, h3⟩ := hf 3 36 (by kernel_rfl) (by kernel_rfl)
      have h3 : a.tmps[36]?.getD undef = deedV d := h3
      exact doesN (.slice (some ⟨w2.heap.size, 0, none⟩) 1 1) (.cells (cellsD d).toArray 28) (by go_simp) ⟨rfl, by simp, new_deeds w2 [d] _⟩
  case fin =>
    intro y γ w2 hb hy u1 u2
    obtain ⟨y0, -, -⟩ := hy 0 (by decide)
    have y1 : y 1 = .slice A m cap := hy 1 (by decide)
    obtain ⟨A3, c3', y2, ho⟩ := hy 2 (by decide)
    have y3 : y 3 = deedV d := hy 3 (by decide)
    obtain ⟨y4, l4, hr4⟩ := hy 4 (by decide)
    simp only [List.zip_cons_cons, List.zip_nil_right, List.foldl_cons, List.foldl_nil, List.take_succ_cons, List.take_zero, List.drop_succ_cons, List.drop_zero, Act.put, List.setIfInBounds_toArray, List.set_cons_succ, List.set_cons_zero, y0, y1, y2, y3, y4]
    have HL3 : Hid (Lay W w2 [dds A3 m c3' D]) := Lib.hid (((Lay.nil W).keep hb).cons ho (fun i s hi => by simp at hi))
    have HR4 := Lib.hid hr4
    generalize γ 0 = q0
    generalize γ 4 = q4 at HR4 ⊢
    clear u1 u2 hb hy y0 y1 y2 y3 y4 l4 hr4 ho c0 c1 c2 c3 htb γ y
    refine chain_step ?_
    go_wp2_with (first
      | (at_builtin; refine wpList_apDs rfl (.tmp 35) (.tmp 37) rfl W.heap.size rfl (HL3.out.own 0 _ rfl) rfl HR4.out (m + 1) rfl (by unfold maxLen; omega) (by omega) HL3.out.size ?_; intro A5 c5 w5 ho5 hg5 ha5
         have HL5 := Lib.hid (HL3.out.app 0 rfl ho5 hg5 ha5)
         clear ho5 hg5 ha5 HL3 HR4)
      | fail)
    refine holds trivial ?_
    refine chain_step ?_
    go_wp2_with fail
    refine (play_law (m + 1) c5 w5.heap.size A5 (appD D m (lsD [d])) w5 (by omega) (Nat.le_refl _) HD1.out (HL5.out.rd 0 rfl)).mono ?_
    rintro e w6 ⟨AA, cC, NA, NC, rfl, hb6, hP6, -⟩
    have HPA := Lib.hid hP6
    have hbw := HL5.out.bel.trans (hb6.mono HL5.out.size)
    have HW6 := Lib.hid (HW.out.keep hbw)
    have HR6 := Lib.hid ((HR.out.below hbw).more hbw.size)
    clear hb6 hP6 hbw HL5 HW HR
    go_wp2
    refine holds trivial ?_
    refine chain_step ?_
    go_wp2
    refine holds trivial ?_
    refine chain_end ?_
    go_wp2
    refine headed ?_
    go_upto_region 5 with (fail)
    clear hiT
    obtain ⟨iT, hiT, hz0, hz1, hz2⟩ := info_parts infoDeed
    have c0 := HW6.out.cellB 0 rfl 0 (by omega)
    have c1 := HW6.out.cellB 0 rfl 1 (by omega)
    have c2 := HW6.out.cellB 0 rfl 2 (by omega)
    have c3 := HW6.out.cellB 0 rfl 3 (by omega)
    simp only [cellsD, ofL_0, ofL_1, ofL_2, ofL_3] at c0 c1 c2 c3
    have htb := (HW6.out.at_ 0 rfl).2
    have HB6 := Lib.hid HW6.out.bel
    clear HW6
    refine wp_newFK (P := Tryd.prog) [0, 1, 2, 3, 4, 5, 6, 7, 8] [43, 44, 45, 46, 47, 48, 49, 50, 51] [9, 10, 11] [12, 13, 14, 15] 9 12 (fun _ => false) (hd5 w6.heap.size A m cap D p d) (by kernel_rfl) (by kernel_rfl) (by repeat' (first | (with_reducible apply tame_then) | (with_reducible apply tame_block) | (with_reducible apply tame_scope) | exact tame_gives | exact tame_body (fun _ _ h => ⟨_, h.1⟩))) rfl rfl (by kernel_rfl) (by kernel_rfl) (by kernel_rfl) (by kernel_rfl) (by decide) (by kernel_rfl) (hd5_keep _ _ _ _ _ _ _) ?ext ?fin
    case ext =>
      intro k hk o ho a w2 hb hold hf
      simp only [List.mem_cons, List.not_mem_nil, or_false] at hk
      rcases hk with rfl | rfl | rfl | rfl | rfl | rfl | rfl | rfl | rfl
      all_goals cases ho
      · exact doesN (.slice (some ⟨w2.heap.size, 0, none⟩) 0 0) (.cells #[] 28) (by go_simp) ⟨rfl, hb.size, heap_alloc_new _ _⟩
      · have h0 : a.tmps[0]?.getD undef = .slice A m cap := hold 0 (by decide)
        exact doesK (.slice A m cap) (by go_simp) rfl
      · obtain ⟨g0, h0, h0b, h0c⟩ := hf 0 43 (by kernel_rfl) (by kernel_rfl)
        obtain ⟨g1, h1⟩ := hf 1 (43 + 1) (by kernel_rfl) (by kernel_rfl)
        have h1 : a.tmps[43 + 1]?.getD undef = .slice A m cap := h1
        exact doesO (Φ := fun v w => ∃ A' c', v = .slice A' m c' ∧ Own w w6.heap.size 28 4 A' m c' (ddF D)) (does_ap0 (.tmp 43) (.tmp (43 + 1)) 22 rfl 28 iT _ 4 48 Tryd.underlying22 hiT hz0 hz1 hz2 rfl (by omega) w6.heap.size g0 h0c h0b hb.size (eval_tmp h0) (eval_tmp h1) (HR6.out.below hb) (fun j _ => ddF_one D j) (by unfold maxLen; omega) (by omega))
      · have h0 : a.tmps[1]?.getD undef = .string (bs p) := hold 1 (by decide)
        exact doesK (.string (bs p)) (by go_simp) rfl
      · obtain ⟨g3, h3⟩ := hf 3 46 (by kernel_rfl) (by kernel_rfl)
        have h3 : a.tmps[46]?.getD undef = .string (bs p) := h3
        exact doesK (deedV ⟨1, p, [], 0⟩) (by go_simp; rfl) rfl
      · have h0 : a.tmps[1]?.getD undef = .string (bs p) := hold 1 (by decide)
        exact doesK (.string (bs p)) (by go_simp) rfl
      · obtain ⟨g3, h3⟩ := hf 5 48 (by kernel_rfl) (by kernel_rfl)
        have h3 : a.tmps[48]?.getD undef = .string (bs p) := h3
        exact doesK (deedV ⟨3, p, [], 0⟩) (by go_simp; rfl) rfl
      · have c0 := (hb.cell (p := ⟨tb, 0, none⟩) htb).trans c0
        have c1 := (hb.cell (p := ⟨tb, 1, none⟩) htb).trans c1
        have c2 := (hb.cell (p := ⟨tb, 2, none⟩) htb).trans c2
        have c3 := (hb.cell (p := ⟨tb, 3, none⟩) htb).trans c3
        have h0 : a.tmps[5]?.getD undef = .pointer (some ⟨tb, 0, none⟩) := hold 5 (by decide)
        exact doesK (deedV d) (by go_simp) rfl
      · obtain ⟨g3, h3⟩ := hf 4 47 (by kernel_rfl) (by kernel_rfl)
        have h3 : a.tmps[47]?.getD undef = deedV ⟨1, p, [], 0⟩ := h3
        obtain ⟨g4, h4⟩ := hf 6 49 (by kernel_rfl) (by kernel_rfl)
        have h4 : a.tmps[49]?.getD undef = deedV ⟨3, p, [], 0⟩ := h4
        obtain ⟨g5, h5⟩ := hf 7 50 (by kernel_rfl) (by kernel_rfl)
        have h5 : a.tmps[50]?.getD undef = deedV d := h5
        exact doesN (.slice (some ⟨w2.heap.size, 0, none⟩) 3 3) (.cells (cellsDs [⟨1, p, [], 0⟩, ⟨3, p, [], 0⟩, d]).toArray 28) (by go_simp; rfl) ⟨rfl, by simp, new_deeds w2 [⟨1, p, [], 0⟩, ⟨3, p, [], 0⟩, d] _⟩
    case fin =>
      intro y γ w2 hb hy u1 u2
      obtain ⟨y0, -, -⟩ := hy 0 (by decide)
      have y1 : y 1 = .slice A m cap := hy 1 (by decide)
      obtain ⟨A3, c3', y2, ho⟩ := hy 2 (by decide)
      have y3 : y 3 = .string (bs p) := hy 3 (by decide)
      have y4 : y 4 = deedV ⟨1, p, [], 0⟩ := hy 4 (by decide)
      have y5 : y 5 = .string (bs p) := hy 5 (by decide)
      have y6 : y 6 = deedV ⟨3, p, [], 0⟩ := hy 6 (by decide)
      have y7 : y 7 = deedV d := hy 7 (by decide)
      obtain ⟨y8, l4, hr4⟩ := hy 8 (by decide)
      simp only [List.zip_cons_cons, List.zip_nil_right, List.foldl_cons, List.foldl_nil, List.take_succ_cons, List.take_zero, List.drop_succ_cons, List.drop_zero, Act.put, List.setIfInBounds_toArray, List.set_cons_succ, List.set_cons_zero, y0, y1, y2, y3, y4, y5, y6, y7, y8]
      have HL3 : Hid (Lay w6 w2 [dds A3 m c3' D]) := Lib.hid (((Lay.nil w6).keep hb).cons ho (fun i s hi => by simp at hi))
      have HR4 := Lib.hid hr4
      generalize γ 0 = q0
      generalize γ 8 = q4 at HR4 ⊢
      clear u1 u2 hb hy y0 y1 y2 y3 y4 y5 y6 y7 y8 l4 hr4 ho c0 c1 c2 c3 htb γ y
      refine chain_step ?_
      go_wp2_with (first
        | (at_builtin; refine wpList_apDs rfl (.tmp 45) (.tmp 51) rfl w6.heap.size rfl (HL3.out.own 0 _ rfl) rfl HR4.out (m + 3) rfl (by unfold maxLen; omega) (by omega) HL3.out.size ?_; intro A5 c5 w5 ho5 hg5 ha5
           have HL5 := Lib.hid (HL3.out.app 0 rfl ho5 hg5 ha5)
           clear ho5 hg5 ha5 HL3 HR4)
        | fail)
      refine holds trivial ?_
      refine chain_step ?_
      go_wp2_with fail
      refine (play_law (m + 3) c5 w5.heap.size A5 (appD D m (lsD [⟨1, p, [], 0⟩, ⟨3, p, [], 0⟩, d])) w5 (by omega) (Nat.le_refl _) HD3.out (HL5.out.rd 0 rfl)).mono ?_
      rintro e w8 ⟨AB, cC, NB, NCB, rfl, hb6, hP6, -⟩
      have HPB := Lib.hid hP6
      have hbw := HL5.out.bel.trans (hb6.mono HL5.out.size)
      have HFIN := Lib.hid (HB6.out.trans (hbw.mono HB6.out.size))
      have HPA8 := Lib.hid (HPA.out.to hbw)
      clear hb6 hP6 hbw HL5 HR6 HPA HB6
      go_wp2
      refine holds trivial ?_
      refine chain_step ?_
      go_wp2
      refine holds trivial ?_
      refine chain_end ?_
      go_wp2
      refine headed ?_
      have e0 : (((m + 1 : Nat) : Int) != (m : Int) + 1) = false := by simp
      have e1 : (((m + 3 : Nat) : Int) != (m : Int) + 3) = false := by simp
      go_upto_region 9 with (fail)
      have h1 := ansS_app D (lsD [d]) m 0
      have k0 := ansS_app D (lsD [⟨1, p, [], 0⟩, ⟨3, p, [], 0⟩, d]) m 0
      have k1 := ansS_app D (lsD [⟨1, p, [], 0⟩, ⟨3, p, [], 0⟩, d]) m 1
      have k2 := ansS_app D (lsD [⟨1, p, [], 0⟩, ⟨3, p, [], 0⟩, d]) m 2
      obtain ⟨a, ha⟩ : ∃ a, ansS T0 (appD D m (lsD [d])) m = a := ⟨_, rfl⟩
      obtain ⟨b, hb⟩ : ∃ b, ansS T0 (appD D m (lsD [⟨1, p, [], 0⟩, ⟨3, p, [], 0⟩, d])) m = b := ⟨_, rfl⟩
      obtain ⟨c, hc⟩ : ∃ c, ansS T0 (appD D m (lsD [⟨1, p, [], 0⟩, ⟨3, p, [], 0⟩, d])) (m + 1) = c := ⟨_, rfl⟩
      obtain ⟨f, hf⟩ : ∃ f, ansS T0 (appD D m (lsD [⟨1, p, [], 0⟩, ⟨3, p, [], 0⟩, d])) (m + 2) = f := ⟨_, rfl⟩
      have HL : Hid (BackLaw a b c f) := Lib.hid (by
        have h2 := HLAW.out
        have h1' : ansS T0 (appD D m (lsD [d])) m = (doS (runS T0 D m) d).1 := h1
        have k0' : ansS T0 (appD D m (lsD [⟨1, p, [], 0⟩, ⟨3, p, [], 0⟩, d])) m = (doS (runS T0 D m) ⟨1, p, [], 0⟩).1 := k0
        have k1' : ansS T0 (appD D m (lsD [⟨1, p, [], 0⟩, ⟨3, p, [], 0⟩, d])) (m + 1) = (doS (doS (runS T0 D m) ⟨1, p, [], 0⟩).2 ⟨3, p, [], 0⟩).1 := k1
        have k2' : ansS T0 (appD D m (lsD [⟨1, p, [], 0⟩, ⟨3, p, [], 0⟩, d])) (m + 2) = (doS (doS (doS (runS T0 D m) ⟨1, p, [], 0⟩).2 ⟨3, p, [], 0⟩).2 d).1 := k2
        rw [← ha, ← hb, ← hc, ← hf, h1', k0', k1', k2']; exact h2)
      have HLA : Hid (a.names.length ≤ 12) := Lib.hid (by rw [← ha, show ansS T0 (appD D m (lsD [d])) m = (doS (runS T0 D m) d).1 from h1]; exact HLEN.out)
      obtain ⟨adb, rfl, -, b0, -, -, -⟩ := HPB.out.rec4 (show m < m + 3 by omega)
      obtain ⟨adb', e, -, s0, -, -, -⟩ := HPB.out.rec4 (show m + 1 < m + 3 by omega)
      injection e with e
      subst e
      obtain ⟨adb', e, -, f0, f1, f2, f3⟩ := HPB.out.rec4 (show m + 2 < m + 3 by omega)
      injection e with e
      subst e
      obtain ⟨ada, rfl, -, a0, a1, a2, a3⟩ := HPA8.out.rec4 (show m < m + 1 by omega)
      have HNF := Lib.hid ((HPB.out.N (m + 2) (by omega)).more HPB.out.le)
      have HNA := Lib.hid ((HPA8.out.N m (by omega)).more HPA8.out.le)
      rw [ha] at a0 a1 a2 a3 HNA
      rw [hb] at b0
      rw [hc] at s0
      rw [hf] at f0 f1 f2 f3 HNF
      clear h1 k0 k1 k2 ha hb hc hf HPB HPA8 HLAW HLEN HD1 HD3
      by_cases hb0 : b.code = 0
      · obtain ⟨hc0, rfl⟩ : c.code = 0 ∧ a = f := HL.out.law.resolve_left fun h => h hb0
        have x1 : (b.code != 0) = false := by simp [hb0]
        have x2 : (c.code == 0) = true := by simp [hc0]
        clear hb0 hc0 HL
        refine wp_text 24 (by kernel_rfl) (by kernel_rfl) (by kernel_rfl) (by repeat' (first | (with_reducible apply tame_then) | (with_reducible apply tame_block) | (with_reducible apply tame_scope) | exact tame_gives | exact tame_body (fun _ _ h => ⟨_, h.1⟩))) ?_
        simp only [List.take_succ_cons, List.take_zero, List.drop_succ_cons, List.drop_zero]
        go_wp2
        refine headed ?_
        go_wp2_with fail
        refine (telling_any (NC m) (NCB (m + 2)) w8.drew.heap.size (NA m) (NB (m + 2)) a w8.drew (Nat.le_trans HLA.out (by omega)) (Nat.le_refl _) HNA.out HNF.out).mono ?_
        rintro e w9 ⟨rfl, hb9⟩
        have HFIN9 := Lib.hid (HFIN.out.drew.trans (hb9.mono HFIN.out.size))
        clear hb9 a0 a1 a2 a3 f0 f1 f2 f3 b0 s0
        go_wp2
        go_ret
        exact ⟨rfl, HFIN9.out⟩
      · have x1 : (b.code != 0) = true := by simpa using hb0
        clear hb0 HL
        refine wp_text 24 (by kernel_rfl) (by kernel_rfl) (by kernel_rfl) (by repeat' (first | (with_reducible apply tame_then) | (with_reducible apply tame_block) | (with_reducible apply tame_scope) | exact tame_gives | exact tame_body (fun _ _ h => ⟨_, h.1⟩))) ?_
        simp only [List.take_succ_cons, List.take_zero, List.drop_succ_cons, List.drop_zero]
        go_wp2
        refine headed ?_
        go_wp2
        go_ret
        exact ⟨rfl, HFIN.out.drew⟩
theorem treeBack_all (A : Option Addr) (n cap : Nat) (D : Nat → Deed) (p : Str) (d : Deed) (w : World) (hb : n ≤ cap ∧ cap * 48 ≤ 140737488351232) (hD : ∀ i, i < n → DeedL (D i)) (hr : Rd w w.heap.size A (n * 4) (ddF D)) (hp : p.length ≤ 140737488351232) (hd : DeedL d) :
    Calls Tryd.prog 5 #[.slice A n cap, .string (bs p), deedV d] w fun e w' => e = .returned (.bool true) ∧ Below w.heap.size w w' := by
  rcases Nat.lt_or_ge 57 n with h | h
  · exact treeBack_bad n cap A D p d w h (by omega) hr
  · exact treeBack_good n cap A D p d w h hD hp hd hr
end Go.Proofs.YtfkfljiinnlilaaDoor
