/- The walk of slices.Delete at [][2]int, one element. -/
import Derived.Test.YtcmbbioipbdonaaEc3
import Derived.Test.YtcmbbioipbdonaaApIn
set_option linter.unusedVariables false
set_option linter.unusedSimpArgs false
namespace Go.Proofs.Ytcmbbioipbdonaa
open Go.RowKit

/-! clear. -/
theorem zeroPair (w : World) : (zeroValue 32).run Try.prog w = .ok (.agg #[.int .i64 0, .int .i64 0]) w := by kernel_rfl
theorem clear_run {w : World} {base g m cap i : Nat} {F : Nat → Value} {ty : TypeId} (h : Own w base 32 2 (some ⟨g, 0, none⟩) m cap F) (hi : i < m) (c : Nat) :
    ∃ w', (Builtin.clear_ #[22] ty #[.slice (some ⟨g, i * 2, none⟩) (m - i) c]).run Try.prog w = .ok (.tuple #[]) w' ∧ Own w' base 32 2 (some ⟨g, 0, none⟩) m cap (fun j => if j < i * 2 then F j else .int .i64 0) ∧ w.grownBy w' (some g) := by
  rcases h with ⟨h1, _⟩ | ⟨g', cur, h1, h2, h3, h4, h5, h6, h7⟩
  · cases h1
  · injection h1 with h1
    injection h1 with h1
    subst h1
    obtain ⟨d, hd⟩ : ∃ d, m - i = d + 1 := ⟨m - i - 1, by omega⟩
    have hz : (Builtin.zeroCells (Value.agg #[.int .i64 0, .int .i64 0]).cells (m - i)).toList = List.replicate ((m - i) * 2) (.int .i64 0) := by
      have hc : (fun j : Nat => (#[Value.int .i64 0, Value.int .i64 0] : Array Value)[j % 2]!) = fun _ => Value.int .i64 0 := by
        funext j
        rcases (by omega : j % 2 = 0 ∨ j % 2 = 1) with h | h <;> rw [h] <;> rfl
      show ((Array.range ((m - i) * 2)).map fun j : Nat => (#[Value.int .i64 0, Value.int .i64 0] : Array Value)[j % 2]!).toList = _
      rw [hc]
      simp only [Array.toList_map, Array.toList_range]
      rw [List.map_const', List.length_range]
    have hst := run_storeCells_at Try.prog g (i * 2) 32 (List.replicate ((m - i) * 2) (.int .i64 0)) 0 cur w h3 (by simp; omega) (by intro v hv; rw [List.eq_of_mem_replicate hv]; rfl)
    simp only [Nat.add_zero, List.length_replicate] at hst
    refine ⟨w.setRow g (cur.toList.take (i * 2) ++ List.replicate ((m - i) * 2) (Value.int .i64 0) ++ cur.toList.drop (i * 2 + (m - i) * 2)).toArray, ?_, .inr ⟨g, _, rfl, h2, setRow_heap w g cur _ _ _ h3, h4, h5, ?_, fun j hj => ?_⟩, ⟨rfl, rfl, rfl, by simp, fun k _ hk => setRow_other w g k _ (fun e => hk (by rw [e]))⟩⟩
    · rw [hd] at hst hz ⊢
      simp [Builtin.clear_, run_underlying Try.underlying22, zeroPair, hz, hst]
    · simp
      omega
    · have hcl : cur.toList.length = cap * 2 := by rw [Array.length_toList, h6]
      have hl : (cur.toList.take (i * 2)).length = i * 2 := by rw [List.length_take]; omega
      show (List.toArray _)[j]? = _
      rw [List.getElem?_toArray]
      dsimp only
      by_cases hji : j < i * 2
      · rw [if_pos hji, List.append_assoc, List.getElem?_append_left (by omega), List.getElem?_take_of_lt hji, Array.getElem?_toList]
        exact h7 j hj
      · rw [if_neg hji, List.getElem?_append_left (by rw [List.length_append, hl, List.length_replicate]; omega), List.getElem?_append_right (by omega), hl, List.getElem?_replicate, if_pos (by omega)]
theorem wpList_clr {w : World} {ops : Array Oper} {rest : List Oper} {o : Oper} {a : Act} {Q : Exit → Act → World → Prop} (hgd : o.guard = none) (s : Operand)
    (ho : o.op = .call { callee := .builtin .clear, args := #[s], argTypes := #[22] }) {base g m cap i c : Nat} {F : Nat → Value} (hs : a.eval s = .slice (some ⟨g, i * 2, none⟩) (m - i) c)
    (hown : Own w base 32 2 (some ⟨g, 0, none⟩) m cap F) (hi : i < m)
    (h : ∀ w', Own w' base 32 2 (some ⟨g, 0, none⟩) m cap (fun j => if j < i * 2 then F j else .int .i64 0) → w.grownBy w' (some g) → wpList Try.prog ops Q rest (a.put o.dst (.tuple #[])) w') :
    wpList Try.prog ops Q (o :: rest) a w := by
  refine wpList_plain hgd fun K hK => ?_
  obtain ⟨w', hrun, h2, h3⟩ := clear_run (ty := o.type) hown hi c
  unfold Oper.wp execOp
  simp only [ho, resolve, invoke, builtin, Sem.run_bind, Sem.run_pure, Result.andThen_ok, List.map_toArray, List.map_cons, List.map_nil, hs, hrun]
  exact hK _ _ (h w' h2 h3)


theorem wyF_erase (l : List (Nat × Nat)) (k j : Nat) : wyF (l.eraseIdx k) j = if j < k * 2 then wyF l j else wyF l (j + 2) := by
  unfold wyF
  have h1 : (j + 2) % 2 = j % 2 := by omega
  have h2 : (j + 2) / 2 = j / 2 + 1 := by omega
  rw [h1, h2]
  simp only [List.getD_eq_getElem?_getD, List.getElem?_eraseIdx]
  by_cases h : j < k * 2
  · rw [if_pos h, if_pos (show j / 2 < k by omega)]
  · rw [if_neg h, if_neg (show ¬ j / 2 < k by omega)]
set_option maxHeartbeats 1600000 in
theorem del_any (l : List (Nat × Nat)) (k m g cap base : Nat) (w : World) (hm : m + 1 = l.length) (hk : k < m + 1) (hl : l.length ≤ 5000) (hO : Own w base 32 2 (some ⟨g, 0, none⟩) (m + 1) cap (wyF l)) :
    Calls Try.prog 15 #[.slice (some ⟨g, 0, none⟩) (m + 1) cap, .int .i64 (k : Nat), .int .i64 ((k : Int) + 1)] w
      (Gives fun v w' => v = .slice (some ⟨g, 0, none⟩) m cap ∧ Own w' base 32 2 (some ⟨g, 0, none⟩) m cap (wyF (l.eraseIdx k)) ∧ w.grownBy w' (some g)) := by
  obtain ⟨iO, hiO, hz0, hz1, hz2⟩ := info_parts infoPairE
  obtain ⟨g', hg', hb0, hb1, hc, hfz⟩ := hO.pos (by omega)
  obtain rfl : g = g' := by injection hg' with h; injection h
  have hle := hO.le
  have hcap := hle.1
  have hcm := hle.2
  unfold maxLen at hcm
  have HO := Lib.hid hO
  have HC := Lib.hid hc
  have HM := Lib.hid hm
  have hm5 : m ≤ 5000 := by omega
  clear hO hg' hb0 hle hfz hl hc hm
  have hkk : ((k : Int) == (k : Int) + 1) = false := by rw [beq_eq_false_iff_ne]; omega
  have HEV : Hid (∀ (ad : Option Addr) (c : Nat), Value.slice ad 1 c = Value.slice ad (m + 1 - m) c) := Lib.hid fun ad c => by rw [show m + 1 - m = 1 by omega]
  have HOD := Lib.hid (HO.out.sim (b := w.drew) ⟨rfl, rfl, rfl, rfl⟩)
  have HGD : Hid (∀ w', w.drew.grownBy w' (some g) → w.grownBy w' (some g)) := Lib.hid fun w' h => ⟨h.1, h.2, h.3, h.4, h.5⟩
  by_cases hlast : k = m
  · obtain rfl : m = k := hlast.symm
    by_cases hcc : cap = m + 1
    · subst hcc
      go_enter Try.func15, Try.ntmps15
      go_wp2
      refine wp_text 6 (by kernel_rfl) (by kernel_rfl) (by kernel_rfl) (by repeat' (first | (with_reducible apply tame_then) | (with_reducible apply tame_block) | (with_reducible apply tame_scope) | exact tame_gives | exact tame_body (fun _ _ h => ⟨_, h.1⟩))) ?_
      simp only [List.take_succ_cons, List.take_zero, List.drop_succ_cons, List.drop_zero]
      go_wp2
      refine headed ?_
      go_wp2_with (first
        | (at_builtin; refine wpList_apIn rfl (.tmp 22) (.tmp 25) 22 rfl 32 iO 2 Try.underlying22 hiO hz1 (N := m + 1) m 0 _ _ (fun _ => undef) rfl rfl HOD.out (fun j hj => absurd hj (by omega)) (fun j hj => absurd hj (by omega)) (by omega) m (by omega) ?_
           intro w1 ho1 hg1
           obtain ⟨w2, hcl, ho2, hg2⟩ := clear_run (ty := 0) ho1 (i := m) (by omega) (1)
           rw [show m + 1 - m = 1 by omega] at hcl
           have HO2 := Lib.hid ho2
           have HG2 := Lib.hid (hg1.trans hg2)
           clear ho1 hg1 ho2 hg2)
        | fail)
      go_ret
      refine ⟨_, rfl, rfl, (HO2.out.shorter (show m ≤ m + 1 by omega)).congr fun j hj => ?_, HGD.out _ HG2.out⟩
      show (if j < m * 2 then (if _ ∧ _ then _ else _ : Value) else _) = _
      rw [if_pos hj, wyF_erase]
      rw [if_neg (by omega), if_pos hj]
    · have hcp : ¬ cap - (m + 1) = 0 := by omega
      go_enter Try.func15, Try.ntmps15
      go_wp2
      refine wp_text 6 (by kernel_rfl) (by kernel_rfl) (by kernel_rfl) (by repeat' (first | (with_reducible apply tame_then) | (with_reducible apply tame_block) | (with_reducible apply tame_scope) | exact tame_gives | exact tame_body (fun _ _ h => ⟨_, h.1⟩))) ?_
      simp only [List.take_succ_cons, List.take_zero, List.drop_succ_cons, List.drop_zero]
      go_wp2
      refine headed ?_
      go_wp2_with (first
        | (at_builtin; refine wpList_apIn rfl (.tmp 22) (.tmp 25) 22 rfl 32 iO 2 Try.underlying22 hiO hz1 (N := m + 1) m 0 _ _ (fun _ => undef) rfl rfl HOD.out (fun j hj => absurd hj (by omega)) (fun j hj => absurd hj (by omega)) (by omega) m (by omega) ?_
           intro w1 ho1 hg1
           obtain ⟨w2, hcl, ho2, hg2⟩ := clear_run (ty := 0) ho1 (i := m) (by omega) (cap - m)
           rw [show m + 1 - m = 1 by omega] at hcl
           have HO2 := Lib.hid ho2
           have HG2 := Lib.hid (hg1.trans hg2)
           clear ho1 hg1 ho2 hg2)
        | fail)
      go_ret
      refine ⟨_, rfl, rfl, (HO2.out.shorter (show m ≤ m + 1 by omega)).congr fun j hj => ?_, HGD.out _ HG2.out⟩
      show (if j < m * 2 then (if _ ∧ _ then _ else _ : Value) else _) = _
      rw [if_pos hj, wyF_erase]
      rw [if_neg (by omega), if_pos hj]
  · have hkm : k < m := by omega
    have hcp : ¬ cap = k + 1 := by omega
    have hcp2 : ¬ cap - (k + 1) = 0 := by omega
    have HA : Hid (∀ j, j < (m - k) * 2 → w.drew.cell? ((⟨g, (k + 1) * 2, none⟩ : Addr).add j) = some (wyF l ((k + 1) * 2 + j))) := Lib.hid fun j hj => by
      rw [Addr.add_lit]; exact HC.out _ (by omega)
    go_enter Try.func15, Try.ntmps15
    go_wp2
    refine wp_text 6 (by kernel_rfl) (by kernel_rfl) (by kernel_rfl) (by repeat' (first | (with_reducible apply tame_then) | (with_reducible apply tame_block) | (with_reducible apply tame_scope) | exact tame_gives | exact tame_body (fun _ _ h => ⟨_, h.1⟩))) ?_
    simp only [List.take_succ_cons, List.take_zero, List.drop_succ_cons, List.drop_zero]
    go_wp2
    refine headed ?_
    go_wp2_with (first
      | (at_builtin; refine wpList_apIn rfl (.tmp 22) (.tmp 25) 22 rfl 32 iO 2 Try.underlying22 hiO hz1 (N := m + 1) k (m - k) ⟨g, (k + 1) * 2, none⟩ _ (fun j => wyF l ((k + 1) * 2 + j)) rfl rfl HOD.out HA.out (fun j hj => wyF_one _ _) (by omega) m (by omega) ?_
         intro w1 ho1 hg1
         obtain ⟨w2, hcl, ho2, hg2⟩ := clear_run (ty := 0) ho1 (i := m) (by omega) (cap - m)
         rw [show m + 1 - m = 1 by omega] at hcl
         have HO2 := Lib.hid ho2
         have HG2 := Lib.hid (hg1.trans hg2)
         clear ho1 hg1 ho2 hg2)
      | fail)
    go_ret
    refine ⟨_, rfl, rfl, (HO2.out.shorter (show m ≤ m + 1 by omega)).congr fun j hj => ?_, HGD.out _ HG2.out⟩
    show (if j < m * 2 then (if _ ∧ _ then _ else _ : Value) else _) = _
    rw [if_pos hj, wyF_erase]
    by_cases hj2 : j < k * 2
    · rw [if_neg (by omega), if_pos hj2]
    · rw [if_pos ⟨by omega, by omega⟩, if_neg hj2, show (k + 1) * 2 + (j - k * 2) = j + 2 by omega]
end Go.Proofs.Ytcmbbioipbdonaa
