/- The walk of slices.Repeat at one element of []int. -/
import Derived.Test.YtcmbbioipbdonaaHeld
import Derived.Test.YtcmbbioipbdonaaHeap
import Derived.Test.YtcmbbioipbdonaaMul
import Derived.Laws.CopyOwn
set_option linter.unusedVariables false
set_option linter.unusedSimpArgs false
namespace Go.Proofs.Ytcmbbioipbdonaa
open Go.RowKit

theorem infoRepI : (Try.prog.info? 3).map (fun i => (i.zero, i.size, i.bytes)) = some (some (.int .i64 0), 1, 8) := by kernel_rfl
theorem szRepI : (Try.prog.info? 3).map (·.size) = some 1 := by kernel_rfl
/-- The cells behind k copies. -/
def curI (v z : Value) (n k : Nat) : List Value := List.replicate k v ++ List.replicate (n - k) z
theorem curI_len (v z : Value) {n k : Nat} (h : k ≤ n) : (curI v z n k).length = n := by simp [curI]; omega
theorem curI_splice (v z : Value) {n k j : Nat} (h : k + j ≤ n) : splice (curI v z n k) k (List.replicate j v) = curI v z n (k + j) := by
  unfold splice curI
  rw [List.take_append, List.drop_append, List.take_replicate, List.take_replicate, List.drop_replicate, List.drop_replicate]
  simp only [List.length_replicate, Nat.min_self, Nat.sub_self, Nat.zero_min, List.replicate_zero, List.append_nil]
  rw [show k - (k + j) = 0 by omega, show n - k - (k + j - k) = n - (k + j) by omega, List.replicate_zero, List.nil_append, ← List.append_assoc, List.replicate_append_replicate]
theorem curI_at (v z : Value) {n k j : Nat} (h : j < k) : (curI v z n k)[j]? = some v := by
  unfold curI
  rw [List.getElem?_append_left (by simpa using h), List.getElem?_replicate, if_pos h]
theorem curI_zero (v z : Value) (n : Nat) : curI v z n 0 = List.replicate n z := by simp [curI]
/-- Between the copies. -/
structure RI (w wr : World) (g : Nat) (e : TypeId) (v z : Value) (n k : Nat) : Prop where
  row : wr.heap[g]? = some (.cells (curI v z n k).toArray e (0, 0))
  bel : Below w.heap.size w wr
theorem RI.own {w wr : World} {e : TypeId} {v z : Value} {n : Nat} (h : RI w wr w.heap.size e v z n n) (hn : n ≤ 6) : Own wr w.heap.size e 1 (some ⟨w.heap.size, 0, none⟩) n n (fun _ => v) :=
  .inr ⟨_, _, rfl, Nat.le_refl _, h.row, Nat.le_refl _, by unfold maxLen; omega, by simp [curI], fun j hj => by rw [List.getElem?_toArray]; exact curI_at v z (by omega)⟩
theorem RI.cell {w wr : World} {g : Nat} {e : TypeId} {v z : Value} {n k j : Nat} (h : RI w wr g e v z n k) (hj : j < k) : wr.cell? ⟨g, j, none⟩ = some v := by
  rw [cell_of_row _ _ _ _ _ _ h.row, List.getElem?_toArray]; exact curI_at v z hj

set_option maxRecDepth 100000 in
set_option maxHeartbeats 1600000 in
theorem repI_any (x : Int) (n : Nat) (h1 : 1 ≤ n) (h6 : n ≤ 6) (ad : Addr) (c : Nat) (w : World) (hc : w.cell? ad = some (.int .i64 x)) (h1c : 1 ≤ c) :
    Calls Try.prog 12 #[.slice (some ad) 1 c, .int .i64 n] w (Gives fun u w' => u = .slice (some ⟨w.heap.size, 0, none⟩) n n ∧ RI w w' w.heap.size 3 (.int .i64 x) (.int .i64 0) n n) := by
  obtain ⟨i0, hi0, hz0, hz1, hz2⟩ := info_parts infoRepI
  have HB := Lib.hid (World.block_lt_of_cell? w _ hc)
  have HC := Lib.hid hc
  clear hc
  go_enter Try.func12, Try.ntmps12
  go_wp2_with fail
  refine (mul_any n h1 h6 w).mono ?_
  rintro e w1 ⟨rfl, rfl⟩
  go_wp2_with (first
    | (at_make; refine wpList_mk1 rfl (.tmp 29) (.tmp 29) _ rfl 3 i0 _ 8 Try.underlying23 hi0 hz0 hz1 hz2 rfl .i64 .i64 n rfl rfl (by omega) (by unfold maxLen; omega) w.heap.size _ rfl (Nat.le_refl _) ?_
       intro w2 ho2 he2
       have HR2 : Hid (RI w w2 w.heap.size 3 (.int .i64 x) (.int .i64 0) n 0) := ⟨by rw [he2, heap_new _ _ rfl, curI_zero, ← toList_madeCells_one]; rfl, by rw [he2]; exact (Below.refl _ _).alloc (Nat.le_refl _) _⟩
       have HC2 : Hid (w2.cell? ad = some (.int .i64 x)) := by show _ = _; rw [he2, World.cell?_alloc_lt _ _ _ HB.out]; exact HC.out
       clear ho2 he2)
    | (with_reducible refine wpList_copy_splice rfl (.tmp 31) (.tmp 32) _ _ rfl 3 Try.underlying23 szRepI (some ⟨w.heap.size, 0, none⟩) (some ad) n n 1 c rfl rfl w.heap.size 0 (curI (.int .i64 x) (.int .i64 0) n 0) 3 HR2.out.row [.int .i64 x] ?c1 ?c2 ?c3 ?c4 w.heap.size w HR2.out.bel (Nat.le_refl _) ?_
       case c1 => show 1 = Nat.min 1 n; exact (Nat.min_eq_left h1).symm
       case c2 => exact fun _ => ⟨rfl, ad, rfl, fun j v hj => by
         rcases j with _ | j
         · have hj : some (Value.int .i64 x) = some v := hj
           rw [← hj]; have := HC2.out; simpa [Addr.add] using this
         · simp at hj⟩
       case c3 => rw [curI_len _ _ (by omega)]; simpa using h1
       case c4 => intro v hv; simp at hv; subst hv; rfl
       intro w3 hh3 hb3
       have HR3 : Hid (RI w w3 w.heap.size 3 (.int .i64 x) (.int .i64 0) n 1) := ⟨by rw [hh3.out, show [Value.int .i64 x] = List.replicate 1 (.int .i64 x) from rfl, curI_splice _ _ (by omega)], hb3⟩
       clear hh3 hb3)
    | fail)
  clear HR2 HC2
  go_loopw [8] (fun i wr => ∃ k : Nat, 1 ≤ k ∧ k ≤ n ∧ i = .int .i64 k ∧ Hid (RI w wr w.heap.size 3 (.int .i64 x) (.int .i64 0) n k)) (fun i _ => n - (intOf i).toNat)
  case atStart => exact ⟨1, by omega, h1, rfl, HR3⟩
  case round =>
    obtain ⟨k, hk1, hk, rfl, HR⟩ := hrel
    clear HR3
    by_cases hlt : k < n
    · obtain ⟨q, hq⟩ : ∃ q, q = Nat.min k (n - k) := ⟨_, rfl⟩
      have hq1 : 1 ≤ q := by rw [hq]; exact Nat.le_min.2 ⟨hk1, by omega⟩
      have hqk : q ≤ k := by rw [hq]; exact Nat.min_le_left _ _
      have hqn : q ≤ n - k := by rw [hq]; exact Nat.min_le_right _ _
      have HQ := Lib.hid hq
      clear hq
      go_wp2
      refine wp_held_mask (fun _ => True) [true, true, true, true, true, true, true, false, false, false] ?A1 (by kernel_rfl) rfl (by kernel_rfl) (by repeat' (first | (with_reducible apply tame_then) | (with_reducible apply tame_block) | (with_reducible apply tame_scope) | exact tame_gives | exact tame_body (fun _ _ h => ⟨_, h.1⟩))) trivial ?head ?tail
      case head =>
        intro W5 hS
        simp only [pick]
        go_wp2
        exact taken
      case tail =>
        simp only [pick, List.map_cons, List.map_nil, Bool.not_true, Bool.not_false]
        refine tail_step ?_
        have HR4 : Hid (RI w wr.drew w.heap.size 3 (.int .i64 x) (.int .i64 0) n k) := ⟨HR.out.row, below_sim HR.out.bel ⟨rfl, rfl, rfl, rfl⟩⟩
        go_wp2_with (first
          | (with_reducible refine wpList_copy_splice rfl (.tmp 41) (.tmp 44) _ _ rfl 3 Try.underlying23 szRepI (some ⟨w.heap.size, k, none⟩) (some ⟨w.heap.size, 0, none⟩) (n - k) (n - k) k n rfl rfl w.heap.size k (curI (.int .i64 x) (.int .i64 0) n k) 3 HR4.out.row (List.replicate q (.int .i64 x)) ?c1 ?c2 ?c3 ?c4 w.heap.size w HR4.out.bel (Nat.le_refl _) ?_
             case c1 => rw [List.length_replicate]; exact HQ.out
             case c2 => exact fun _ => ⟨rfl, _, rfl, fun j v hj => by
               rw [List.getElem?_replicate] at hj
               split at hj
               · injection hj with hj
                 subst hj
                 have e : (⟨w.heap.size, 0, none⟩ : Addr).add j = ⟨w.heap.size, j, none⟩ := by unfold Addr.add; split <;> simp_all
                 rw [e]
                 exact HR4.out.cell (by omega)
               · cases hj⟩
             case c3 => rw [curI_len _ _ hk, List.length_replicate]; omega
             case c4 => intro v hv; rw [(List.mem_replicate.1 hv).2]; rfl
             intro w3 hh3 hb3
             have HR3 : Hid (RI w w3 w.heap.size 3 (.int .i64 x) (.int .i64 0) n (k + q)) := ⟨by rw [hh3.out, curI_splice _ _ (by omega)], hb3⟩
             rw [List.length_replicate]
             clear hh3 hb3)
          | fail)
        clear HR4 HQ
        refine holds trivial ?_
        refine tail_step ?_
        go_wp2
        refine holds trivial ?_
        refine tail_last ?_
        go_wp2
        go_roundw
        case rel => exact ⟨k + q, by omega, by omega, by go_num, HR3.out⟩
        case measure => simp [intOf]; omega
    · obtain rfl : k = n := by omega
      go_wp2
      go_ret
      exact ⟨_, rfl, rfl, HR.out⟩
end Go.Proofs.Ytcmbbioipbdonaa
