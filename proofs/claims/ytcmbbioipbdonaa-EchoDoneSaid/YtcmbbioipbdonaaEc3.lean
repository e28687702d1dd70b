/- The wave in memory; send; slices.Delete at [][2]int. -/
import Derived.Test.YtcmbbioipbdonaaSortQ
import Derived.Test.YtcmbbioipbdonaaEcInv
import Derived.Test.YtcmbbioipbdonaaRec2
import Derived.Test.YtcmbbioipbdonaaHeld
import Derived.Test.YtcmbbioipbdonaaPair
set_option linter.unusedVariables false
set_option linter.unusedSimpArgs false
namespace Go.Proofs.Ytcmbbioipbdonaa
open Go.RowKit

theorem infoPairE : (Try.prog.info? 32).map (fun i => (i.zero, i.size, i.bytes)) = some (some (.agg #[.int .i64 0, .int .i64 0]), 2, 16) := by kernel_rfl
/-- What is on the way, cell by cell. -/
def wyF (l : List (Nat × Nat)) (j : Nat) : Value := if j % 2 = 0 then .int .i64 ((l.getD (j / 2) (0, 0)).1 : Nat) else .int .i64 ((l.getD (j / 2) (0, 0)).2 : Nat)
theorem wyF_0 (l : List (Nat × Nat)) (k : Nat) : wyF l (k * 2) = .int .i64 ((l.getD k (0, 0)).1 : Nat) := by
  unfold wyF; rw [if_pos (by omega), show k * 2 / 2 = k by omega]
theorem wyF_1 (l : List (Nat × Nat)) (k : Nat) : wyF l (k * 2 + 1) = .int .i64 ((l.getD k (0, 0)).2 : Nat) := by
  unfold wyF; rw [if_neg (by omega), show (k * 2 + 1) / 2 = k by omega]
theorem wyF_one (l : List (Nat × Nat)) (j : Nat) : (wyF l j).oneCell' = true := by unfold wyF; split <;> rfl
theorem wyF_app {l : List (Nat × Nat)} {x : Nat × Nat} {j : Nat} (h : j < l.length * 2) : wyF (l ++ [x]) j = wyF l j := by
  unfold wyF
  rw [List.getD_eq_getElem?_getD, List.getD_eq_getElem?_getD, List.getElem?_append_left (by omega)]
theorem wyF_new (l : List (Nat × Nat)) (x : Nat × Nat) : wyF (l ++ [x]) (l.length * 2) = .int .i64 (x.1 : Nat) ∧ wyF (l ++ [x]) (l.length * 2 + 1) = .int .i64 (x.2 : Nat) := by
  rw [wyF_0, wyF_1]
  simp [List.getD_eq_getElem?_getD]
abbrev wvB (b : Nat) (N Wy Wt F : Value) (sn : Nat) : LRow := blk b 42 5 (ofL [N, Wy, Wt, F, .int .i64 (sn : Nat)])
abbrev wyR (A : Option Addr) (cap : Nat) (l : List (Nat × Nat)) : LRow := ⟨A, 32, 2, l.length, cap, wyF l⟩
abbrev rowsW (b gn n : Nat) (gt gf : Nat) (cf : Nat) (A : Option Addr) (cap : Nat) (f : Nat → Value) (s : ES) (R : List LRow) : List LRow :=
  wvB b (.slice (some ⟨gn, 0, none⟩) n n) (.slice A s.way.length cap) (.slice (some ⟨gt, 0, none⟩) n n) (.slice (some ⟨gf, 0, none⟩) n cf) s.sent
    :: wyR A cap s.way :: arr gn 23 n f :: arr gt 3 n (fun i => .int .i64 (s.wait i)) :: ⟨some ⟨gf, 0, none⟩, 3, 1, n, cf, fun i => .int .i64 (s.frm i)⟩ :: R
abbrev nearV (s : ES) (i : Nat) : List Value := (s.near i).map fun j => .int .i64 (j : Nat)
/-- The wave: its blocks, and the rows of who is joined with whom. -/
abbrev LayW (b gn n gt gf cf : Nat) (A : Option Addr) (cap : Nat) (f : Nat → Value) (R : List LRow) (w0 : World) (s : ES) (w : World) : Prop :=
  LayQ w0 w (rowsW b gn n gt gf cf A cap f s R) [] (fun _ : Nat => 3) f (nearV s)
def WayOk (n : Nat) (s : ES) : Prop := ∀ x ∈ s.way, x.1 < n ∧ x.2 < n

set_option maxHeartbeats 1600000 in
theorem send_any (b gn n gt gf cf : Nat) (A : Option Addr) (cap : Nat) (f : Nat → Value) (R : List LRow) (w0 : World) (s : ES) (w : World) (x y : Nat) (hl : s.way.length ≤ 5000) (hs : s.sent ≤ 5000) (h : LayW b gn n gt gf cf A cap f R w0 s w) :
    Calls Try.prog 14 #[.pointer (some ⟨b, 0, none⟩), .int .i64 (x : Nat), .int .i64 (y : Nat)] w fun e w' => e = .returned (.tuple #[]) ∧ ∃ A' cap', LayW b gn n gt gf cf A' cap' f R w0 (sends x [y] s) w' := by
  obtain ⟨iO, hiO, hz0, hz1, hz2⟩ := info_parts infoPairE
  have HL := Lib.hid h; clear h
  have c0 := HL.out.lay.cellB 0 rfl 1 (by omega)
  have c4 := HL.out.lay.cellB 0 rfl 4 (by omega)
  have hb := (HL.out.lay.at_ 0 rfl).2
  have hz := HL.out.lay.size
  have hw := HL.out.lay.own 1 _ rfl
  simp only [ofL_1, ofL_4] at c0 c4
  go_enter Try.func14, Try.ntmps14
  go_wp2_with (first
    | (at_builtin; refine wpList_ap rfl (.tmp 10) (.tmp 14) _ rfl 32 iO _ 2 16 Try.underlying22 hiO hz0 hz1 hz2 rfl (by omega) w0.heap.size (n := s.way.length) rfl (hw.alloc _) (B := w.heap.size + 1) (m := 1) (g := fun j => wyF (s.way ++ [(x, y)]) (s.way.length * 2 + j)) rfl ?hr (fun j _ => wyF_one _ _) (wyF (s.way ++ [(x, y)])) (fun j hj => wyF_app hj) (fun j _ => rfl) (s.way.length + 1) rfl (by unfold maxLen; omega) (by omega) (by simp; omega) ?_
       case hr =>
         refine cell_new w _ _ _ w.heap.size rfl (fun j hj => ?_)
         rcases (by omega : j = 0 ∨ j = 1) with rfl | rfl
         · exact (congrArg some (wyF_new s.way (x, y)).1).symm
         · exact (congrArg some (wyF_new s.way (x, y)).2).symm
       intro A3 c3 w3 ho3 hg3 ha3
       have HL3 := Lib.hid ((HL.out.alloc (.cells #[.int .i64 (x : Nat), .int .i64 (y : Nat)] 32)).app 1 rfl ho3 hg3 ha3)
       have d1 := HL3.out.lay.cellB 0 rfl 1 (by omega)
       have d4 := HL3.out.lay.cellB 0 rfl 4 (by omega)
       have z1 := HL3.out.lay.frz 0 rfl (by omega) 1
       have z4 := HL3.out.lay.frz 0 rfl (by omega) 4
       have hb3 := (HL3.out.lay.at_ 0 rfl).2
       simp only [ofL_1, ofL_4] at d1 d4
       clear ho3 hg3 ha3)
    | fail)
  go_end0
  refine ⟨rfl, A3, c3, ?_⟩
  have hlen : s.way.length + 1 = (s.way ++ [(x, y)]).length := by simp
  have h0 := HL3.out
  rw [hlen] at h0 ⊢
  have h1 := h0.fld 0 1 (.slice A3 (s.way ++ [(x, y)]).length c3) rfl (by omega) (by simp)
  exact h1.fld 0 4 (.int .i64 (s.sent + 1 : Nat)) rfl (by omega) (by simp)
end Go.Proofs.Ytcmbbioipbdonaa
