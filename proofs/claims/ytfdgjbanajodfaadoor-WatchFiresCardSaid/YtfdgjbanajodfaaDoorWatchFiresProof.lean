/-
  WatchFires: for every input the law returns true, and its arguments read as before; the card ties the listed tables to the program's text. No further condition.
-/
import Derived.Test.YtfdgjbanajodfaaDoorWaApp
import Derived.Test.YtfdgjbanajodfaaDoorInside
import Derived.Test.YtfdgjbanajodfaaDoorApK
import Derived.Test.YtfdgjbanajodfaaDoorTie
import Derived.Test.YtfdgjbanajodfaaDoorCards
import Derived.ProofKit
import Derived.LaidMore
import Derived.Lay
import Derived.OpenShut
import Derived.Stop.Joined
import Derived.SevenTiedAt
set_option linter.unusedVariables false
set_option linter.unusedSimpArgs false
namespace Go.Proofs.YtfdgjbanajodfaaDoor
open Go.RowKit

set_option maxRecDepth 100000 in
set_option maxHeartbeats 1600000 in
theorem watchFires_bad (m cap : Nat) (A : Option Addr) (X : Nat → AskX) (who : Int) (p : Str) (w : World) (hm : 57 < m) (hb : m * 64 ≤ 140737488351232) (hr : Rd w w.heap.size A (m * 6) (akF X)) :
    Calls Tryd.prog 4 #[.slice A m cap, .int .i64 who, .string (bs p)] w fun e w' => e = .returned (.bool true) ∧ Below w.heap.size w w' := by
  have HR := Lib.hid hr; clear hr
  obtain ⟨iK, hiK, hzK0, hzK1, hzK2⟩ := info_parts infoAsked
  have hiK1 : 0 < iK.size := by rw [hzK1]; omega
  have hiK2 : (Value.agg #[.int .i64 0, .bool false, .int .i64 0, .string ⟨#[]⟩, .string ⟨#[]⟩, .int .i64 0]).cells.size = iK.size := by rw [hzK1]; rfl
  have HK1 := Lib.hid hiK1
  have HK2 := Lib.hid hiK2
  have HZ0 := Lib.hid hzK0
  have HZ1 := Lib.hid hzK1
  have HZ2 := Lib.hid hzK2
  have HIK := Lib.hid hiK
  clear hiK1 hiK2 hzK0 hzK1 hzK2 hiK
  go_enter Tryd.func4, Tryd.ntmps4
  go_wp2_with (at_builtin; revert HR)
  intro HR
  refine wpList_apAs rfl (.tmp 25) (.tmp 26) rfl w.heap.size rfl (Own.empty _ _ _ _ (akF (fun _ => Az)) _ (by simp) (by simp)) rfl (HR.out.alloc (Nat.le_refl _) _) m (Nat.zero_add m) (by unfold maxLen; omega) (by omega) (by simp) ?_
  intro A3 c3 w3 ho3 hg3 ha3
  have HL3 : Hid (Lay w w3 [aks A3 m c3 (appA (fun _ => Az) 0 X)]) := Lib.hid (((Lay.nil w).new #[] 32 6 0 (akF (fun _ => Az)) _ rfl rfl (by unfold maxLen; omega) (fun j hj => absurd hj (by omega))).app 0 rfl ho3 hg3 ha3)
  clear ho3 hg3 ha3
  go_wp2_with (at_builtin; revert HR)
  intro HR
  have hown : Own w3 w.heap.size 32 6 A3 m c3 (akF (appA (fun _ => Az) 0 X)) := HL3.out.own 0 _ rfl
  have hcap : m ≤ c3 := by
    rcases hown with ⟨_, h0, _⟩ | ⟨g, cur, _, _, _, hnc, _⟩
    · omega
    · exact hnc
  have hown : Own w3 w.heap.size 32 iK.size A3 m c3 (akF (appA (fun _ => Az) 0 X)) := by rw [HZ1.out]; exact hown
  obtain ⟨A5, c5, w5, hrun, hg5⟩ := run_apZs (P := Tryd.prog) w3 22 3 22 32 iK _ .i64 .i64 Tryd.underlying22 Tryd.underlying3 HIK.out HZ0.out HK1.out HK2.out (by intro v hv; simp [Value.cells] at hv; rcases hv with rfl | rfl | rfl | rfl | rfl | rfl <;> rfl) (by omega) hown 4 (by omega) (by omega) (by rw [HZ2.out]; omega) (fun h => by rw [HZ2.out]; exact cap_fit hcap hb h)
  have HRUN := Lib.hid hrun
  have HB5 : Hid (Below w.heap.size w w5) := Lib.hid (HL3.out.bel.grown hg5 HL3.out.size (fun b hb => (HL3.out.lt (k := 0) rfl b hb).1))
  clear hown hrun hg5 HL3
  refine Lib.wpList_append_run w3 rfl (.tmp 27) (.const (.int .i64 4)) 22 3 rfl _ _ rfl rfl _ _ HRUN.out ?_
  clear HRUN
  go_wp2_with (first
    | (go_at_call 9; refine (wplay_bad (m + 4) c5 A5 w5 (by unfold maxLen; omega) (by omega)).mono ?_; rintro e w6 ⟨rfl, hw6⟩; subst w6)
    | fail)
  go_ret
  exact ⟨rfl, HB5.out⟩
abbrev askV (x : AskX) : Value := .agg #[.int .i64 x.who, .bool x.watch, .int .i64 x.deed.kind, .string (bs x.deed.path), .string (bs x.deed.data), .int .i64 x.deed.version]
def hd8 (B : Nat) (A : Option Addr) (m cap : Nat) (X : Nat → AskX) (d : AskX) : Nat → Value → Nat → World → Prop
  | 0 => isEmp B 32
  | 1 => isV (.slice A m cap)
  | 2 => isOwn B 32 6 m (akF X)
  | 3 => isV (askV d)
  | 4 => isV (askV d)
  | _ => isRd 2 12 (akF (lsA [d, d]))
theorem hd8_keep (B : Nat) (A : Option Addr) (m cap : Nat) (X : Nat → AskX) (d : AskX) (i : Nat) (v : Value) (g : Nat) (w1 w2 : World) (h : hd8 B A m cap X d i v g w1) (hb : Below w1.heap.size w1 w2) : hd8 B A m cap X d i v g w2 := by
  rcases i with _ | _ | _ | _ | _ | i
  · exact isEmp_keep h hb
  · exact h
  · exact isOwn_keep (g := g) h hb
  · exact h
  · exact h
  · exact isRd_keep h hb
abbrev X1 (X : Nat → AskX) (m : Nat) (who : Int) (p : Str) : Nat → AskX := appA X m (lsA [getX who p])
abbrev X3 (X : Nat → AskX) (m : Nat) (who : Int) (p : Str) : Nat → AskX := appA (X1 X m who p) (m + 1) (lsA [setX p, setX p])
theorem fires_run (X : Nat → AskX) (m : Nat) (who : Int) (p : Str) : wst (X1 X m who p) (m + 1) = (askW (wst X m) (getX who p)).2 ∧ wans (X3 X m who p) m = (askW (wst X m) (getX who p)).1 ∧
    wans (X3 X m who p) (m + 1) = (askW (askW (wst X m) (getX who p)).2 (setX p)).1 ∧ wst (X3 X m who p) (m + 3) = (askW (askW (askW (wst X m) (getX who p)).2 (setX p)).2 (setX p)).2 := by
  have e1 : wst (X1 X m who p) (m + 1) = (askW (wst X m) (getX who p)).2 := by
    show (askW (wst (X1 X m who p) m) (X1 X m who p m)).2 = _
    rw [show wst (X1 X m who p) m = wst X m from wst_app0 _ _ _, show X1 X m who p m = getX who p from appA_new X m (lsA [getX who p]) 0]
  have e3 : wst (X3 X m who p) (m + 1) = (askW (wst X m) (getX who p)).2 := (wst_app0 _ _ _).trans e1
  have e0 : wst (X3 X m who p) m = wst X m := by
    refine (wst_congr (Y := X1 X m who p) m fun i hi => appA_old _ _ _ (by omega)).trans (wst_app0 _ _ _)
  have ex : X3 X m who p m = getX who p := by
    refine (appA_old _ _ _ (by omega)).trans ?_
    exact appA_new X m (lsA [getX who p]) 0
  refine ⟨e1, ?_, ?_, ?_⟩
  · show (askW (wst (X3 X m who p) m) (X3 X m who p m)).1 = _
    rw [e0, ex]
  · show (askW (wst (X3 X m who p) (m + 1)) (X3 X m who p (m + 1))).1 = _
    rw [e3, show X3 X m who p (m + 1) = setX p from appA_new (X1 X m who p) (m + 1) (lsA [setX p, setX p]) 0]
  · show (askW (askW (wst (X3 X m who p) (m + 1)) (X3 X m who p (m + 1))).2 (X3 X m who p (m + 1 + 1))).2 = _
    rw [e3, show X3 X m who p (m + 1) = setX p from appA_new (X1 X m who p) (m + 1) (lsA [setX p, setX p]) 0, show X3 X m who p (m + 1 + 1) = setX p from appA_new (X1 X m who p) (m + 1) (lsA [setX p, setX p]) 1]
def LastS (gb wn al : Nat) (ad : Addr) (c : Nat) (p : Str) (w : World) : Prop :=
  w.cell? ⟨gb, wn, none⟩ = some (.slice (some ad) (al + 1) c) ∧ w.cell? (ad.add (al * 2)) = some (.int .i64 2) ∧ w.cell? ⟨(ad.add (al * 2)).block, (ad.add (al * 2)).off + 1, none⟩ = some (.string (bs p))
set_option maxRecDepth 100000 in
set_option maxHeartbeats 3200000 in
theorem watchFires_good (m cap : Nat) (A : Option Addr) (X : Nat → AskX) (who : Int) (p : Str) (w : World) (hm : m ≤ 57) (hD : ∀ i, i < m → DeedL (X i).deed) (hp : p.length ≤ 140737488351232) (hr : Rd w w.heap.size A (m * 6) (akF X)) :
    Calls Tryd.prog 4 #[.slice A m cap, .int .i64 who, .string (bs p)] w fun e w' => e = .returned (.bool true) ∧ Below w.heap.size w w' := by
  have HR := Lib.hid hr
  have hd1 : ∀ i, i < m + 1 → DeedL (X1 X m who p i).deed := appA_L (l := [getX who p]) hD fun x hx => by
    obtain rfl := List.mem_singleton.1 hx
    exact ⟨hp, by show (0 : Nat) ≤ _; omega⟩
  have HD1 := Lib.hid hd1
  have HD3 : Hid (∀ i, i < m + 3 → DeedL (X3 X m who p i).deed) := Lib.hid (appA_L (l := [setX p, setX p]) hd1 fun x hx => by
    rcases List.mem_cons.1 hx with rfl | hx
    · exact ⟨hp, by show (0 : Nat) ≤ _; omega⟩
    · obtain rfl := List.mem_singleton.1 hx
      exact ⟨hp, by show (0 : Nat) ≤ _; omega⟩)
  obtain ⟨f1, f2, f3, f4⟩ := fires_run X m who p
  have hlaw := fires_law (wst X m) (wst_nodup X m) who p
  rw [← f1, ← f2] at hlaw
  rw [f1, ← f3, ← f4, ← f1] at hlaw
  have HLAW := Lib.hid hlaw
  have HNT := Lib.hid (fun i => (wst_ok (X1 X m who p) (m + 1) hd1).nt i)
  obtain ⟨iT, hiT, hz0, hz1, hz2⟩ := info_parts infoAsked
  clear hr hD hp hd1 f1 f2 f3 f4 hlaw
  go_enter Tryd.func4, Tryd.ntmps4
  go_upto_region 6 with (fail)
  refine at_world (F := fun W' => Code.wp _ _ _ _ W') (fun W => Rd W W.heap.size A (m * 6) (akF X) ∧ Lay w W [blk w.heap.size 32 6 (ofL (cellsA (setX p)))]) ⟨?h1, (Lay.nil w).newB (cellsA (setX p)) 32 6 rfl _ rfl⟩ ?_
  case h1 => exact (HR.out.alloc (Nat.le_refl _) _).more (by simp)
  rintro W ⟨hR, hL⟩
  clear HR
  have HR := Lib.hid hR
  have HW := Lib.hid hL
  clear hR hL
  generalize w.heap.size = tb at HW ⊢
  go_wp2_with (at_builtin; revert HR)
  intro HR
  refine wpList_apAs rfl (.tmp 38) (.tmp 39) rfl W.heap.size rfl (Own.empty _ _ _ _ (akF (fun _ => Az)) _ (by simp) (by simp)) rfl (HR.out.alloc (Nat.le_refl _) _) m (Nat.zero_add m) (by unfold maxLen; omega) (by omega) (by simp) ?_
  intro A3 c3 w3 ho3 hg3 ha3
  have HL3 : Hid (Lay W w3 [aks A3 m c3 (appA (fun _ => Az) 0 X)]) := Lib.hid (((Lay.nil W).new #[] 32 6 0 (akF (fun _ => Az)) _ rfl rfl (by unfold maxLen; omega) (fun j hj => absurd hj (by omega))).app 0 rfl ho3 hg3 ha3)
  rw [appA_zero] at HL3
  clear ho3 hg3 ha3
  go_wp2_with (at_builtin; revert HR)
  intro HR
  refine wpList_apAs rfl (.tmp 40) (.tmp 45) rfl W.heap.size rfl ((HL3.out.alloc _).own 0 _ rfl) rfl (new_asks w3 [getX who p] _) (m + 1) rfl (by unfold maxLen; omega) (by omega) (HL3.out.alloc _).size ?_
  intro A5 c5 w5 ho5 hg5 ha5
  have HL5 := Lib.hid ((HL3.out.alloc _).app 0 rfl ho5 hg5 ha5)
  clear ho5 hg5 ha5 HL3
  go_upto_region 8 with (first
    | (go_at_call 9
       refine (wplay_law (m + 1) c5 w5.heap.size A5 (X1 X m who p) w5 (by omega) (Nat.le_refl _) HD1.out (HL5.out.rd 0 rfl)).mono ?_
       rintro e w6 ⟨AC, cC, NA, NC, ga, MA, MC, rfl, hb6, hP6⟩
       have HPA := Lib.hid hP6
       have HB6 := Lib.hid hb6
       clear hb6 hP6)
    | fail)
  have HWB : Hid (Below W.heap.size W w6) := Lib.hid (HL5.out.bel.trans (HB6.out.mono HL5.out.size))
  have HW6 := Lib.hid (HW.out.keep HWB.out)
  have HRA : Hid (Rd w6 w6.heap.size A5 ((m + 1) * 6) (akF (X1 X m who p))) := Lib.hid (((HL5.out.rd 0 rfl).below HB6.out).more HB6.out.size)
  clear HW HR HL5 HWB HB6
  have c0 := HW6.out.cellB 0 rfl 0 (by omega)
  have c1 := HW6.out.cellB 0 rfl 1 (by omega)
  have c2 := HW6.out.cellB 0 rfl 2 (by omega)
  have c3' := HW6.out.cellB 0 rfl 3 (by omega)
  have c4 := HW6.out.cellB 0 rfl 4 (by omega)
  have c5' := HW6.out.cellB 0 rfl 5 (by omega)
  simp only [cellsA, cellsD, List.cons_append, List.nil_append, ofL_0, ofL_1, ofL_2, ofL_3, ofL_4, ofL_5] at c0 c1 c2 c3' c4 c5'
  have htb := (HW6.out.at_ 0 rfl).2
  refine wp_newFK (P := Tryd.prog) [0, 1, 2, 3, 4, 5] [54, 55, 56, 57, 58, 59] [6, 7] [8, 9, 10, 11, 12, 13, 14] 6 8 (fun _ => false) (hd8 w6.heap.size A5 (m + 1) c5 (X1 X m who p) (setX p)) (by kernel_rfl) (by kernel_rfl) (by repeat' (first | (with_reducible apply tame_then) | (with_reducible apply tame_block) | (with_reducible apply tame_scope) | exact tame_gives | exact tame_body (fun _ _ h => ⟨_, h.1⟩))) rfl rfl (by kernel_rfl) (by kernel_rfl) (by kernel_rfl) (by kernel_rfl) (by decide) (by kernel_rfl) (hd8_keep _ _ _ _ _ _) ?ext ?fin
  case ext =>
    intro k hk o ho a w2 hb hold hf
    simp only [List.mem_cons, List.not_mem_nil, or_false] at hk
    have c0 := (hb.cell (p := ⟨tb, 0, none⟩) htb).trans c0
    have c1 := (hb.cell (p := ⟨tb, 1, none⟩) htb).trans c1
    have c2 := (hb.cell (p := ⟨tb, 2, none⟩) htb).trans c2
    have c3 := (hb.cell (p := ⟨tb, 3, none⟩) htb).trans c3'
    have c4 := (hb.cell (p := ⟨tb, 4, none⟩) htb).trans c4
    have c5 := (hb.cell (p := ⟨tb, 5, none⟩) htb).trans c5'
    rcases hk with rfl | rfl | rfl | rfl | rfl | rfl
    all_goals cases ho
    · exact doesN (.slice (some ⟨w2.heap.size, 0, none⟩) 0 0) (.cells #[] 32) (by go_simp) ⟨rfl, hb.size, heap_alloc_new _ _⟩
    · have h0 := hold 12 (by decide)
      exact doesK _ (by go_simp) rfl
    · obtain ⟨g0, h0, h0b, h0c⟩ := hf 0 54 (by kernel_rfl) (by kernel_rfl)
      obtain ⟨g1, h1⟩ := hf 1 55 (by kernel_rfl) (by kernel_rfl)
      exact doesO (Φ := fun v w => ∃ A' c', v = .slice A' (m + 1) c' ∧ Own w w6.heap.size 32 6 A' (m + 1) c' (akF (X1 X m who p))) (does_ap0 (.tmp 54) (.tmp 55) 22 rfl 32 iT _ 6 64 Tryd.underlying22 hiT hz0 hz1 hz2 rfl (by omega) w6.heap.size g0 h0c h0b hb.size (eval_tmp h0) (eval_tmp h1) (HRA.out.below hb) (fun j _ => akF_one _ j) (by unfold maxLen; omega) (by omega))
    · have h0 : a.tmps[11]?.getD undef = .pointer (some ⟨tb, 0, none⟩) := hold 11 (by decide)
      exact doesK (askV (setX p)) (by go_simp) rfl
    · have h0 : a.tmps[11]?.getD undef = .pointer (some ⟨tb, 0, none⟩) := hold 11 (by decide)
      exact doesK (askV (setX p)) (by go_simp) rfl
    · obtain ⟨g3, h3⟩ := hf 3 57 (by kernel_rfl) (by kernel_rfl)
      have h3 : a.tmps[57]?.getD undef = askV (setX p) := h3
      obtain ⟨g4, h4⟩ := hf 4 58 (by kernel_rfl) (by kernel_rfl)
      have h4 : a.tmps[58]?.getD undef = askV (setX p) := h4
      exact doesN (.slice (some ⟨w2.heap.size, 0, none⟩) 2 2) (.cells (cellsAs [setX p, setX p]).toArray 32) (by go_simp; rfl) ⟨rfl, by simp, new_asks w2 [setX p, setX p] _⟩
  case fin =>
    intro y γ w2 hb hy u1 u2
    obtain ⟨y0, -, -⟩ := hy 0 (by decide)
    have y1 : y 1 = .slice A5 (m + 1) c5 := hy 1 (by decide)
    obtain ⟨A3, c3, y2, ho⟩ := hy 2 (by decide)
    have y3 : y 3 = askV (setX p) := hy 3 (by decide)
    have y4 : y 4 = askV (setX p) := hy 4 (by decide)
    obtain ⟨y5, l4, hr4⟩ := hy 5 (by decide)
    simp only [List.zip_cons_cons, List.zip_nil_right, List.foldl_cons, List.foldl_nil, List.take_succ_cons, List.take_zero, List.drop_succ_cons, List.drop_zero, Act.put, List.setIfInBounds_toArray, List.set_cons_succ, List.set_cons_zero, y0, y1, y2, y3, y4, y5]
    have HL3 : Hid (Lay w6 w2 [aks A3 (m + 1) c3 (X1 X m who p)]) := Lib.hid (((Lay.nil w6).keep hb).cons ho (fun i s hi => by simp at hi))
    have HR4 := Lib.hid hr4
    generalize γ 0 = q0
    generalize γ 5 = q4 at HR4 ⊢
    clear u1 u2 hb hy y0 y1 y2 y3 y4 y5 l4 hr4 ho c0 c1 c2 c3' c4 c5' htb γ y
    refine chain_step ?_
    go_wp2_with (at_builtin; revert HRA)
    intro HRA
    refine wpList_apAs rfl (.tmp 56) (.tmp 59) rfl w6.heap.size rfl (HL3.out.own 0 _ rfl) rfl HR4.out (m + 3) rfl (by unfold maxLen; omega) (by omega) HL3.out.size ?_
    intro A7 c7 w7 ho5 hg5 ha5
    have HL7 := Lib.hid (HL3.out.app 0 rfl ho5 hg5 ha5)
    clear ho5 hg5 ha5 HL3 HR4
    refine holds trivial ?_
    refine chain_step ?_
    go_wp2_with fail
    refine (wplay_law (m + 3) c7 w7.heap.size A7 (X3 X m who p) w7 (by omega) (Nat.le_refl _) HD3.out (HL7.out.rd 0 rfl)).mono ?_
    rintro e w8 ⟨AB, cB, NB, NCB, gb, NBB, MCB, rfl, hb8, hP8⟩
    have HPB := Lib.hid hP8
    have hbw := HL7.out.bel.trans (hb8.mono HL7.out.size)
    have HPA8 := Lib.hid (HPA.out.to hbw)
    have HB8 : Hid (Below w.heap.size w w8) := Lib.hid (HW6.out.bel.trans (hbw.mono HW6.out.size))
    clear hb8 hP8 hbw HL7 HRA HPA HW6
    go_wp2
    refine holds trivial ?_
    refine chain_end ?_
    go_wp2
    refine headed ?_
    have e0 : (((m + 3 : Nat) : Int) != (m : Int) + 3) = false := by simp
    go_upto_region 11 with (fail)
    clear e0
    by_cases hw : 0 ≤ who ∧ who < 6
    · have hno := HLAW.out.no hw
      have hyes := HLAW.out.yes hw
      have HNO := Lib.hid hno
      have HYES := Lib.hid hyes
      obtain ⟨wn, rfl⟩ : ∃ wn : Nat, who = wn := ⟨who.toNat, by omega⟩
      have hw6 : wn < 6 := by omega
      have hin : (decide (0 ≤ (wn : Int)) && decide ((wn : Int) < 6)) = true := by simp; omega
      have HIN := Lib.hid hin
      clear hw hin hno hyes HLAW
      go_upto_region 13 with (first
        | (go_at_call 10; refine (inside1 true 6 wn w8 3 w8.heap.size rfl HIN.out).mono ?_; rintro e w2 ⟨rfl, hw2⟩; subst w2)
        | fail)
      have HB9 : Hid (Below w.heap.size w (w8.alloc (.cells #[.int .i64 (wn : Nat)] 3))) := Lib.hid (HB8.out.alloc HB8.out.size _)
      have HP9 := Lib.hid (HPB.out.to ((Below.refl w8.heap.size w8).alloc (Nat.le_refl _) (.cells #[.int .i64 (wn : Nat)] 3)))
      have HA9 := Lib.hid (HPA8.out.to ((Below.refl w8.heap.size w8).alloc (Nat.le_refl _) (.cells #[.int .i64 (wn : Nat)] 3)))
      clear HB8 HPB HPA8 HIN
      generalize w8.alloc (.cells #[.int .i64 (wn : Nat)] 3) = W9 at HB9 HP9 HA9 ⊢
      obtain ⟨adb, rfl, -, t0, -, -, -⟩ := HP9.out.pl.rec4 (show m < m + 3 by omega)
      obtain ⟨adb', e, -, t1, -, -, -⟩ := HP9.out.pl.rec4 (show m + 1 < m + 3 by omega)
      injection e with e
      subst e
      by_cases h0 : (wans (X3 X m wn p) m).code = 0
      · have b0 : ((wans (X3 X m wn p) m).code == 0) = true := by simp [h0]
        have hyes := HYES.out h0
        clear HNO HYES t1 h0
        rw [Int.toNat_natCast] at hyes
        have ga0 := (HA9.out.at_ hw6).2
        have gb0 := (HP9.out.at_ hw6).2
        have hnl := HNT.out wn
        rw [hyes] at gb0
        obtain ⟨la, hla⟩ : ∃ la, (wst (X1 X m wn p) (m + 1)).nt wn = la := ⟨_, rfl⟩
        rw [hla] at ga0 gb0 hnl hyes
        rw [List.length_append, List.length_singleton] at gb0
        have gb9 := Nat.lt_of_lt_of_le (HP9.out.at_ hw6).1 HP9.out.pl.le
        obtain ⟨ad3, hma, ab3, n0, n1⟩ := HP9.out.note hw6 (k := la.length) (x := (2, p)) (by rw [hyes]; simp)
        have ab3 := Nat.lt_of_lt_of_le ab3 HP9.out.pl.le
        rw [hma] at gb0
        dsimp only at n0 n1
        clear hma hyes hla
        generalize la.length = al at *
        have e1 : (((al + 1 : Nat) : Int) != (al : Int) + 1) = false := by simp
        have e2 : ((bs p).toList == (bs p).toList) = true := by simp
        go_wp2
        refine wp_text_all (by kernel_rfl) (by kernel_rfl) (by kernel_rfl) (by repeat' (first | (with_reducible apply tame_then) | (with_reducible apply tame_block) | (with_reducible apply tame_scope) | exact tame_gives | exact tame_body (fun _ _ h => ⟨_, h.1⟩))) ?_
        go_wp2
        refine headed ?_
        go_wp2
        have HSW : Hid (∀ W', Below W9.heap.size W9 W' → LastS gb wn al ad3 (MCB wn) p W') := Lib.hid fun W' hb => ⟨(hb.cell (p := ⟨gb, wn, none⟩) gb9).trans gb0, (hb.cell (p := ad3.add (al * 2)) (by rw [addr_block]; exact ab3)).trans n0, (hb.cell (p := ⟨(ad3.add (al * 2)).block, (ad3.add (al * 2)).off + 1, none⟩) (by show (ad3.add (al * 2)).block < _; rw [addr_block]; exact ab3)).trans n1⟩
        clear gb9 ab3 t0 ga0 gb0 n0 n1
        refine wp_held_mask (LastS gb wn al ad3 (MCB wn) p) [true, true, true, true, true, true, true, true, true, true, true, true, false, false] ?A1 (by kernel_rfl) rfl (by kernel_rfl) (by repeat' (first | (with_reducible apply tame_then) | (with_reducible apply tame_block) | (with_reducible apply tame_scope) | exact tame_gives | exact tame_body (fun _ _ h => ⟨_, h.1⟩))) (HSW.out _ (below_sim (Below.refl _ _) ⟨rfl, rfl, rfl, rfl⟩)) ?head ?tail
        case head =>
          intro W5 ⟨s0, s1, s2⟩
          simp only [pick]
          go_wp2
          exact taken
        case tail =>
          simp only [pick, List.map_cons, List.map_nil, Bool.not_true, Bool.not_false]
          refine tail_step ?_
          go_wp2
          refine holds (HSW.out _ (below_sim (Below.alloc (Below.refl W9.heap.size W9) (Nat.le_refl _) _) ⟨rfl, rfl, rfl, rfl⟩)) ?_
          refine tail_last ?_
          go_wp2
          go_ret
          exact ⟨rfl, below_sim (HB9.out.alloc HB9.out.size _) ⟨rfl, rfl, rfl, rfl⟩⟩
      · have b0 : ((wans (X3 X m wn p) m).code == 0) = false := by simp [h0]
        have h1 := HNO.out h0
        have b1 : ((wans (X3 X m wn p) (m + 1)).code == 0) = false := by simp [h1]
        have HB1 : Hid (((wans (X3 X m wn p) (m + 1)).code != 0) = true) := Lib.hid (by simp [h1])
        clear h0 h1 HNO HYES
        go_wp2
        go_ret
        exact ⟨ret_bool HB1.out, HB9.out⟩
    · have h2 := HLAW.out.out hw
      have hin : (decide (0 ≤ who) && decide (who < 6)) = false := by
        rw [Bool.eq_false_iff]; intro h; simp at h; exact hw h
      have HIN := Lib.hid hin
      have b2 : ((wans (X3 X m who p) m).code == 2) = true := by simp [h2]
      clear hw hin h2 HLAW
      go_upto_region 12 with (first
        | (go_at_call 10; refine (inside1 false 6 who w8 3 w8.heap.size rfl HIN.out).mono ?_; rintro e w2 ⟨rfl, hw2⟩; subst w2)
        | fail)
      have HP9 := Lib.hid (HPB.out.to ((Below.refl w8.heap.size w8).alloc (Nat.le_refl _) (.cells #[.int .i64 who] 3)))
      obtain ⟨adb, rfl, -, t0, -, -, -⟩ := HP9.out.pl.rec4 (show m < m + 3 by omega)
      go_wp2
      go_ret
      exact ⟨rfl, HB8.out.alloc HB8.out.size _⟩
theorem watchFires_all (A : Option Addr) (m cap : Nat) (X : Nat → AskX) (who : Int) (p : Str) (w : World) (hm : m ≤ cap ∧ cap * 64 ≤ 140737488351232) (hD : ∀ i, i < m → DeedL (X i).deed) (hr : Rd w w.heap.size A (m * 6) (akF X)) (hp : p.length ≤ 140737488351232) :
    Calls Tryd.prog 4 #[.slice A m cap, .int .i64 who, .string (bs p)] w fun e w' => e = .returned (.bool true) ∧ Below w.heap.size w w' := by
  by_cases h : m ≤ 57
  · exact watchFires_good m cap A X who p w h hD hp hr
  · exact watchFires_bad m cap A X who p w (by omega) (by omega) hr
end Go.Proofs.YtfdgjbanajodfaaDoor
namespace Go.Proofs.YtfdgjbanajodfaaDoor
open Go.ChangeShapes Go.WideShapes Go.ChangeAt Go.RowKit

set_option maxRecDepth 100000 in
theorem watchFires_lifted (os : Os) (started : os.Started) (H : Type) (enc : TypeId × Value → H) :
    ReturnsInHanded {} Tryd.checked os 4 .any (fun w args => (Rows.watchFiresSpec.pre enc Tryd.prog Tryd.f4 [] false w args ∧ laidMetH Tryd.prog Rows.watchFiresRow.laid w) ∧ sizedMet enc Tryd.prog Tryd.f4 (OpenSpec.ofChange Rows.watchFiresSpec) false w args)
      (Rows.watchFiresSpec.post enc Tryd.prog Tryd.f4 false true false false) := by
  refine returnsInHanded_of_change_and (C := Tryd.checked) (X := fun w _ => laidMetH Tryd.prog Rows.watchFiresRow.laid w) (fun _ _ _ hh h => h.of_heap hh) Tryd.own started (by kernel_rfl) Tryd.func4
    (ChangeSpec.witness_shaped (enc := enc) (C := Tryd.checked) (os := os) (X := fun w _ => laidMetH Tryd.prog Rows.watchFiresRow.laid w) false (World.laidAll Tryd.prog os Rows.watchFiresRow.laid) #[.slice none 0 0, .int .i64 0, .string ⟨#[]⟩] 8 (World.laidAll_os _ _ _)
      (World.shaped_of_ZipB (by kernel_rfl) (by kernel_rfl)) (by kernel_rfl) (by kernel_rfl) (by kernel_rfl)
      (by rw [MakeChecks.laidMetH_plain _ _ _ (by kernel_rfl)]; exact laidMet_laidAll _ (by kernel_rfl) (by kernel_rfl))) ?_
  intro W base args ds gs before hval0 hW _ hsz0 _ _
  have hsz : (DataW.weightsEach Tryd.prog (Tryd.f4.params.toList ++ Rows.watchFiresSpec.plain.varTypes Tryd.prog) (ds ++ gs)).all (· ≤ reachBytes) = true := hsz0
  have hval : ∀ (j : Nat) t v, Tryd.f4.params[j]? = some t → args[j]? = some v → Value.okWide Tryd.prog W .any base t v := hval0
  have hW' := hW
  obtain ⟨p, q, hA0, hV, _, _, _⟩ := hW
  have hA : DataW.TrodAll enc Tryd.prog W 0 (fun _ => true) true Tryd.f4.params.toList args.toList ds p := hA0
  rw [Tryd.params4] at hA hval hsz
  obtain ⟨v0, vs0, d0, ds0, p0, q0, hargs, rfl, rfl, h0, r0⟩ := trodAll_cons hA
  obtain ⟨v1, vs1, d1, ds1, p1, q1, rfl, rfl, rfl, h1, r1⟩ := trodAll_cons r0
  obtain ⟨v2, vs2, d2, ds2, p2, q2, rfl, rfl, rfl, h2, r2⟩ := trodAll_cons r1
  obtain ⟨rfl, rfl, rfl⟩ := trodAll_nil r2
  obtain rfl : args = #[v0, v1, v2] := by cases args; simp_all
  obtain ⟨rfl, rfl⟩ := trodVars_none hV
  obtain ⟨A0, n0, cap0, D0, rfl, hm0, hD0, hr0⟩ := open_asked (hval 0 _ v0 rfl rfl) h0 (sized_at hsz (j := 0) rfl rfl)
  obtain ⟨x1, rfl, _, _, wx1⟩ := open_int Tryd.underlying3 (hval 1 _ v1 rfl rfl) h1
  obtain ⟨s2, rfl, rfl, _, _⟩ := ChangeMaps.open_string Tryd.underlying9 (hval 2 _ v2 rfl rfl) h2
  have l2 : s2.data.toList.length ≤ 140737488351232 := sized_at hsz (j := 2) rfl rfl _ (by simp [DataW.weights])
  have hc := watchFires_all A0 n0 cap0 D0 x1 s2.data.toList W ⟨hm0.1.1, slcap_bound hsz (j := 0) rfl rfl Tryd.underlying22 (b := 64) (by kernel_rfl) hm0.2⟩ hD0 hr0 l2
  rw [bs_data] at hc
  refine hc.mono fun e W' ⟨he, hb⟩ => ⟨_, he, ?_⟩
  exact law_post Tryd.laidOut (by kernel_rfl) (tb := 4) rfl Tryd.underlying4 rfl hW' rfl rfl rfl hb

theorem watchFires_row_holds : Rows.WatchFiresSaid :=
  OpenClaim.holds_of_wide 4 Tryd.f4 rfl rfl rfl rfl rfl rfl rfl ⟨rfl, rfl, rfl, rfl, rfl⟩ rfl rfl rfl rfl rfl (by kernel_rfl) Tryd.func4 (by kernel_rfl)
    (of_decide_eq_true (by kernel_rfl)) (by unfold Func.isWrapper; first | (rw [if_pos (by decide +kernel)]; kernel_rfl) | (rw [if_neg (by decide +kernel)]; exact ⟨rfl, rfl⟩))
    (fun os started H enc _ => watchFires_lifted os started H enc)

theorem watchFires_holds : Rows.WatchFiresCardSaid :=
  Claim7.holds_tied_plain_at .later [] [.data, .pinned] true (true, "752d6fce3fcda7412fb07ffda60c945c395a0c908def440a2c5807e8d499db57") false
    watchFires_row_holds (fun _ h => by cases h) (by kernel_rfl) (fun _ h => by cases h) watchFires_row_tie rfl ⟨rfl, rfl⟩ (by kernel_rfl) rfl
    (fun f fn hf hfn => by
      obtain rfl : f = 4 := Option.some.inj ((show Tryd.prog.funcNamed "beaconry/beaconrykeep.WatchFires" = some 4 by kernel_rfl).symm.trans hf) |>.symm
      obtain rfl : fn = Tryd.f4 := (Option.some.inj (Tryd.func4.symm.trans hfn)).symm
      exact ⟨by kernel_rfl, fun j t ht => by
        rw [Tryd.params4] at ht
        have hm : t ∈ [22, 3, 9] := by simpa using Array.mem_of_getElem? ht
        have hall : ([22, 3, 9].all fun u => !Tryd.prog.wantsStandIn u) = true := by kernel_rfl
        exact (show Tryd.prog.wantsStandIn t = false by simpa using List.all_eq_true.1 hall t hm)⟩)
    (by kernel_rfl)
end Go.Proofs.YtfdgjbanajodfaaDoor
