/- The walk of beaconrykeep.grown; a script with some deeds behind it. -/
import Derived.Test.YtfkfljiinnlilaaDoorTrTell
set_option linter.unusedVariables false
set_option linter.unusedSimpArgs false
namespace Go.Proofs.YtfkfljiinnlilaaDoor
open Go.RowKit

abbrev dds (A : Option Addr) (q cap : Nat) (D : Nat → Deed) : LRow := ⟨A, 28, 4, q, cap, ddF D⟩
theorem new_deeds (w : World) (l : List Deed) (ty : TypeId) : Rd (w.alloc (.cells (cellsDs l).toArray ty)) (w.heap.size + 1) (some ⟨w.heap.size, 0, none⟩) (l.length * 4) (ddF (lsD l)) :=
  cell_new w _ ty (n := l.length * 4) (ddF (lsD l)) w.heap.size rfl (fun j hj => by rw [List.getElem?_toArray]; exact cellsDs_at l j hj)
theorem appD_L {D : Nat → Deed} {m : Nat} {l : List Deed} (h : ∀ i, i < m → DeedL (D i)) (hl : ∀ d ∈ l, DeedL d) : ∀ i, i < m + l.length → DeedL (appD D m (lsD l) i) := by
  intro i hi
  by_cases h1 : i < m
  · rw [appD_old _ _ _ h1]; exact h i h1
  · obtain ⟨k, rfl⟩ : ∃ k, i = m + k := ⟨i - m, by omega⟩
    rw [appD_new]
    have hk : k < l.length := by omega
    have : lsD l k = l[k] := by simp [lsD, List.getD_eq_getElem?_getD, List.getElem?_eq_getElem hk]
    rw [this]
    exact hl _ (List.getElem_mem hk)
theorem Dz_L : DeedL Dz := ⟨by show (0 : Nat) ≤ _; omega, by show (0 : Nat) ≤ _; omega⟩
set_option maxRecDepth 100000 in
set_option maxHeartbeats 1600000 in
theorem grown_any (m cap : Nat) (A : Option Addr) (D : Nat → Deed) (p : Str) (w : World) (hm : m ≤ 59) (hD : ∀ i, i < m → DeedL (D i)) (hp : p.length ≤ 140737488351232) (hr : Rd w w.heap.size A (m * 4) (ddF D)) :
    Calls Tryd.prog 8 #[.slice A m cap, .string (bs p)] w fun e w' => ∃ NA NC a, e = .returned (.tuple #[toldV NA NC a, .bool true]) ∧ a = (doS (runS T0 D m) ⟨4, p, [], 0⟩).1 ∧ Below w.heap.size w w' ∧ Rd w' w'.heap.size NA a.names.length (strF a.names) := by
  have HRA := Lib.hid (hr.alloc (Nat.le_refl _) (.cells #[.int .i64 0, .string ⟨#[]⟩, .int .i64 0, .slice none 0 0] 31)); clear hr
  have HL0 := Lib.hid ((Lay.nil w).newB told0 31 4 rfl _ rfl)
  have HD : Hid (∀ i, i < m + 1 → DeedL (appD D m (lsD [⟨4, p, [], 0⟩]) i)) := Lib.hid (appD_L (l := [⟨4, p, [], 0⟩]) hD fun d hd => by
    obtain rfl := List.mem_singleton.1 hd
    exact ⟨hp, by show (0 : Nat) ≤ _; omega⟩)
  clear hD
  have HS : Hid (w.heap.size ≤ (w.alloc (.cells #[.int .i64 0, .string ⟨#[]⟩, .int .i64 0, .slice none 0 0] 31)).heap.size) := Lib.hid (by simp)
  have HR : Hid (Rd (w.alloc (.cells #[.int .i64 0, .string ⟨#[]⟩, .int .i64 0, .slice none 0 0] 31)) (w.alloc (.cells #[.int .i64 0, .string ⟨#[]⟩, .int .i64 0, .slice none 0 0] 31)).heap.size A (m * 4) (ddF D)) := Lib.hid (HRA.out.more HS.out)
  clear HRA
  go_enter Tryd.func8, Tryd.ntmps8
  go_upto_region 1 with (fail)
  refine at_world (F := fun W' => Code.wp _ _ _ _ W') (fun W => Rd W W.heap.size A (m * 4) (ddF D) ∧ Lay w W [blk w.heap.size 31 4 (ofL told0)]) ⟨HR.out, HL0.out⟩ ?_
  rintro W ⟨hR, hL⟩
  clear HR HS HL0
  have HR := Lib.hid hR
  have HW := Lib.hid hL
  clear hR hL
  generalize w.heap.size = tb at HW ⊢
  go_wp2_with (first
    | (at_builtin; refine wpList_apDs rfl (.tmp 9) (.tmp 10) rfl W.heap.size rfl (Own.empty _ _ _ _ (ddF (fun _ => Dz)) _ (by simp) (by simp)) rfl (HR.out.alloc (Nat.le_refl _) _) m (Nat.zero_add m) (by unfold maxLen; omega) (by omega) (by simp) ?_; intro A3 c3 w3 ho3 hg3 ha3
       have HL3 : Hid (Lay W w3 [dds A3 m c3 (appD (fun _ => Dz) 0 D)]) := (((Lay.nil W).new #[] 28 4 0 (ddF (fun _ => Dz)) _ rfl rfl (by unfold maxLen; omega) (fun j hj => absurd hj (by omega))).app 0 rfl ho3 hg3 ha3)
       rw [appD_zero] at HL3
       clear ho3 hg3 ha3)
    | (at_builtin; refine wpList_apDs rfl (.tmp 11) (.tmp 14) rfl W.heap.size rfl ((HL3.out.alloc _).own 0 _ rfl) rfl (new_deeds w3 [⟨4, p, [], 0⟩] _) (m + 1) rfl (by unfold maxLen; omega) (by omega) (HL3.out.alloc _).size ?_; intro A5 c5 w5 ho5 hg5 ha5
       have HL5 := Lib.hid ((HL3.out.alloc _).app 0 rfl ho5 hg5 ha5)
       clear ho5 hg5 ha5 HL3)
    | fail)
  refine (play_law (m + 1) c5 w5.heap.size A5 (appD D m (lsD [⟨4, p, [], 0⟩])) w5 (by omega) (Nat.le_refl _) HD.out (HL5.out.rd 0 rfl)).mono ?_
  rintro e w6 ⟨AC, cC, NA, NC, rfl, hb, hP, hlo⟩
  have HW6 := Lib.hid (HW.out.keep (HL5.out.bel.trans (hb.mono HL5.out.size)))
  have HA : Hid (ansS T0 (appD D m (lsD [⟨4, p, [], 0⟩])) m = (doS (runS T0 D m) ⟨4, p, [], 0⟩).1) := Lib.hid (ansS_app D _ m 0)
  obtain ⟨a, ha⟩ : ∃ a, ansS T0 (appD D m (lsD [⟨4, p, [], 0⟩])) m = a := ⟨_, rfl⟩
  have HN := Lib.hid (hP.N m (by omega))
  obtain ⟨ad, rfl, -, m0, m1, m2, m3⟩ := hP.rec4 (show m < m + 1 by omega)
  rw [ha] at m0 m1 m2 m3 HA HN
  have r0 := HW6.out.cellB 0 rfl 0 (by omega)
  have r1 := HW6.out.cellB 0 rfl 1 (by omega)
  have r2 := HW6.out.cellB 0 rfl 2 (by omega)
  have r3 := HW6.out.cellB 0 rfl 3 (by omega)
  have y0 := HW6.out.frz 0 rfl (by omega) 0
  have y1 := HW6.out.frz 0 rfl (by omega) 1
  have y2 := HW6.out.frz 0 rfl (by omega) 2
  have y3 := HW6.out.frz 0 rfl (by omega) 3
  have HTB : Hid (∀ b, ablock (NA m) = some b → b ≠ tb) := Lib.hid fun b h1 e => by
    have l1 := hlo m (by omega) b h1
    have l2 := (HW.out.at_ 0 rfl).2
    have l3 := HL5.out.size
    omega
  have HSZ : Hid (w6.heap.size ≤ ((((w6.setCell ⟨tb, 0, none⟩ (.int .i64 a.code)).setCell ⟨tb, 1, none⟩ (.string (bs a.data))).setCell ⟨tb, 2, none⟩ (.int .i64 a.ver)).setCell ⟨tb, 3, none⟩ (.slice (NA m) a.names.length (NC m))).heap.size) := Lib.hid (by simp)
  clear hP hb ha HL5 HR HW hlo
  have e0 : (((m + 1 : Nat) : Int) != (m : Int) + 1) = false := by simp
  go_wp2
  have HF := Lib.hid ((((HW6.out.fld 0 0 (.int .i64 a.code) rfl (by omega) (by simp)).fld 0 1 (.string (bs a.data)) rfl (by omega) (by simp)).fld 0 2 (.int .i64 a.ver) rfl (by omega) (by simp)).fld 0 3 (.slice (NA m) a.names.length (NC m)) rfl (by omega) (by simp))
  have f0 := HF.out.cellB 0 rfl 0 (by omega)
  have f1 := HF.out.cellB 0 rfl 1 (by omega)
  have f2 := HF.out.cellB 0 rfl 2 (by omega)
  have f3 := HF.out.cellB 0 rfl 3 (by omega)
  simp only [List.set_cons_zero, List.set_cons_succ, ofL_0, ofL_1, ofL_2, ofL_3] at f0 f1 f2 f3
  refine bodyPost_ret (v := .tuple #[toldV (NA m) (NC m) a, .bool true]) (by simp [results, Tryd.results8, go_sem, f0, f1, f2, f3, toldV]) rfl ?_
  refine ⟨_, _, a, rfl, HA.out, HF.out.bel, ?_⟩
  exact ((((HN.out.off _ _ HTB.out).off _ _ HTB.out).off _ _ HTB.out).off _ _ HTB.out).more HSZ.out
end Go.Proofs.YtfkfljiinnlilaaDoor
