/- The walk of slices.DeleteFunc at []int (Way's closure). -/
import Derived.Test.YthonnpimfidkdaaVecS
import Derived.Lib.SliceRun
set_option linter.unusedVariables false
set_option linter.unusedSimpArgs false
namespace Go.Proofs.Ythonnpimfidkdaa
open Go.RowKit

def idxTo (p : Nat → Bool) (n : Nat) : Int := match (List.range n).find? p with | some i => (i : Int) | none => -1
theorem idxTo_hit {p : Nat → Bool} {n k : Nat} (hk : k < n) (h : p k = true) (hb : ∀ j, j < k → p j = false) : idxTo p n = k := by
  have : (List.range n).find? p = some k := by
    rw [List.find?_range_eq_some]
    exact ⟨h, by simpa using hk, fun j hj => by simp [hb j hj]⟩
  rw [idxTo, this]
theorem idxTo_miss {p : Nat → Bool} {n : Nat} (hb : ∀ j, j < n → p j = false) : idxTo p n = -1 := by
  have : (List.range n).find? p = none := by
    rw [List.find?_range_eq_none]
    intro i hi; simp [hb i hi]
  rw [idxTo, this]
def lf (L : List Nat) (j : Nat) : Nat := L.getD j 0
theorem lf_at {L : List Nat} {j : Nat} (h : j < L.length) : lf L j = L[j] := by simp [lf, List.getD, h]
def eqN (s x : Nat) : Bool := x == s
set_option maxHeartbeats 400000 in
theorem betC_any (x s b : Nat) (w : World) (hc : w.cell? ⟨b, 2, none⟩ = some (.int .i64 s)) : Calls Try.prog 20 #[.int .i64 x, .pointer (some ⟨b, 0, none⟩)] w fun e w' => e = .returned (.bool (eqN s x)) ∧ w = w' := by
  go_enter Try.func20, Try.ntmps20
  go_wp2
  go_ret
  exact ⟨ret_bool (by unfold eqN; rw [Bool.eq_iff_iff, beq_iff_eq, beq_iff_eq]; omega), rfl⟩
set_option maxHeartbeats 400000 in
theorem index_Better (s : Nat) (A : Option Addr) (m cap B b : Nat) (f : Nat → Nat) (w : World) (hm : m ≤ maxLen) (hr : Rd w B A m (fun j => .int .i64 (f j : Nat))) (hb : w.cell? ⟨b, 2, none⟩ = some (.int .i64 s)) :
    Calls Try.prog 28 #[.slice A m cap, .func (.func 20) #[] #[.pointer (some ⟨b, 0, none⟩)]] w fun e w' => e = .returned (.int .i64 (idxTo (fun j => eqN s (f j)) m)) ∧ w = w' := by
  unfold maxLen at hm
  have HR := Lib.hid hr; clear hr
  have HB := Lib.hid hb; clear hb
  have HC := Lib.hid (fun (x : Nat) => betC_any x s b _ HB.out)
  go_enter Try.func28, Try.ntmps28
  go_wp2
  go_loop [8] (fun i => ∃ k : Nat, k ≤ m ∧ i = .int .i64 k ∧ ∀ j, j < k → eqN s (f j) = false) (fun i => m - (intOf i).toNat)
  case atStart => exact ⟨0, by omega, rfl, fun j hj => absurd hj (by omega)⟩
  case round =>
    obtain ⟨k, hk, rfl, hall⟩ := hrel
    have HA := Lib.hid hall; clear hall
    by_cases hlt : k < m
    · obtain ⟨ad, rfl, _, hc⟩ := HR.out (by omega)
      have hck := hc k hlt
      clear hc
      cases hq : eqN s (f k)
      all_goals
        have HQ := Lib.hid hq; clear hq
        go_wp2_with (go_at_call 20; refine (bool_is (HC.out (f k)) HQ.out).mono ?_; rintro e w' ⟨rfl, rfl⟩)
        first
          | (go_ret; exact ⟨ret_int (idxTo_hit hlt HQ.out HA.out).symm, rfl⟩)
          | (go_round
             case rel => exact ⟨k + 1, by omega, by go_num, fun j hj => (Nat.lt_succ_iff_lt_or_eq.1 hj).elim (HA.out j) (fun e => by subst e; exact HQ.out)⟩
             case measure => simp [intOf]; omega)
    · obtain rfl : k = m := by omega
      go_wp2
      go_ret
      exact ⟨ret_int (idxTo_miss HA.out).symm, rfl⟩

theorem Own.less {w : World} {base : Nat} {e : TypeId} {size : Nat} {A : Option Addr} {n n' cap : Nat} {f : Nat → Value} (h : Own w base e size A n cap f) (hn : n' ≤ n) : Own w base e size A n' cap f := by
  rcases h with ⟨rfl, h0, h1⟩ | ⟨g, cur, rfl, hb, hg, h1, h2, h3, hf⟩
  · exact .inl ⟨rfl, by omega, h1⟩
  · exact .inr ⟨g, cur, rfl, hb, hg, by omega, h2, h3, fun j hj => hf j (Nat.lt_of_lt_of_le hj (Nat.mul_le_mul_right _ hn))⟩
theorem Lay.less {w0 w : World} {R : List LRow} {A : Option Addr} {ty : TypeId} {sz n n' cap : Nat} {F : Nat → Value} (h : Lay w0 w (⟨A, ty, sz, n, cap, F⟩ :: R)) (hn : n' ≤ n) : Lay w0 w (⟨A, ty, sz, n', cap, F⟩ :: R) := by
  have key : ∀ (k : Nat) (r : LRow), (⟨A, ty, sz, n', cap, F⟩ :: R : List LRow)[k]? = some r → ∃ s, (⟨A, ty, sz, n, cap, F⟩ :: R : List LRow)[k]? = some s ∧ s.a = r.a := by
    intro k r hk
    rcases k with _ | k
    · obtain rfl : (⟨A, ty, sz, n', cap, F⟩ : LRow) = r := by simpa using hk
      exact ⟨_, rfl, rfl⟩
    · exact ⟨r, hk, rfl⟩
  refine ⟨fun k r hk => ?_, fun i j r s hij hi hj => ?_, h.bel⟩
  · rcases k with _ | k
    · obtain rfl : (⟨A, ty, sz, n', cap, F⟩ : LRow) = r := by simpa using hk
      exact (h.own 0 _ rfl).less hn
    · exact h.own (k + 1) r hk
  · obtain ⟨r', hr, er⟩ := key i r hi
    obtain ⟨s', hs, es⟩ := key j s hj
    rw [← er, ← es]
    exact h.ap i j r' s' hij hr hs
theorem Lay.clear {w0 : World} {R : List LRow} {g : Nat} {ty : TypeId} {n cap : Nat} : ∀ (vs : List Value) (o : Nat) (w : World) (F : Nat → Value), o + vs.length ≤ n → Lay w0 w (⟨some ⟨g, 0, none⟩, ty, 1, n, cap, F⟩ :: R) →
    ∃ F' : Nat → Value, (∀ j, j < o → F' j = F j) ∧ Lay w0 (w.setCells g o vs) (⟨some ⟨g, 0, none⟩, ty, 1, n, cap, F'⟩ :: R)
  | [], o, w, F, _, h => ⟨F, fun _ _ => rfl, h⟩
  | v :: vs, o, w, F, ho, h => by
    simp only [List.length_cons] at ho
    obtain ⟨F', h1, h2⟩ := Lay.clear vs (o + 1) (w.setCell ⟨g, o, none⟩ v) (fun t => if t = o then v else F t) (by omega) (h.set 0 _ rfl (by omega) (by simp) (fun i _ hi => by simp [hi]))
    exact ⟨F', fun j hj => by rw [h1 j (by omega), if_neg (by omega)], h2⟩
/-- What is kept of the first j. -/
def keptTo (s : Nat) (L : List Nat) (j : Nat) : List Nat := (L.take j).filter (fun x => !eqN s x)
/-- The cells behind the first j. -/
def kcell (s : Nat) (L : List Nat) (j t : Nat) : Nat := if t < (keptTo s L j).length then lf (keptTo s L j) t else lf L t
theorem keptTo_yes {s : Nat} {L : List Nat} {j : Nat} (hj : j < L.length) (h : eqN s (lf L j) = false) : keptTo s L (j + 1) = keptTo s L j ++ [lf L j] := by
  rw [lf_at hj] at *
  rw [keptTo, List.take_succ_eq_append_getElem hj, List.filter_append]
  simp [keptTo, h]
theorem keptTo_no {s : Nat} {L : List Nat} {j : Nat} (hj : j < L.length) (h : eqN s (lf L j) = true) : keptTo s L (j + 1) = keptTo s L j := by
  rw [lf_at hj] at *
  rw [keptTo, List.take_succ_eq_append_getElem hj, List.filter_append]
  simp [keptTo, h]
theorem keptTo_le (s : Nat) (L : List Nat) (j : Nat) : (keptTo s L j).length ≤ j := Nat.le_trans (List.length_filter_le _ _) (List.length_take_le _ _)
theorem keptTo_all {s : Nat} {L : List Nat} {j : Nat} (hj : j ≤ L.length) (h : ∀ i, i < j → eqN s (lf L i) = false) : keptTo s L j = L.take j := by
  rw [keptTo, List.filter_eq_self]
  intro x hx
  obtain ⟨i, hi, rfl⟩ := List.mem_iff_getElem.1 hx
  have hi' : i < j := by simpa using (Nat.lt_of_lt_of_le hi (List.length_take_le _ _))
  have := h i hi'
  rw [lf_at (by omega)] at this
  rw [List.getElem_take]
  simp [this]
theorem keptTo_end (s : Nat) (L : List Nat) : keptTo s L L.length = L.filter (fun x => !eqN s x) := by rw [keptTo, List.take_length]
theorem lf_app (L : List Nat) (x t : Nat) : lf (L ++ [x]) t = if t < L.length then lf L t else if t = L.length then x else 0 := by
  unfold lf
  rw [List.getD_eq_getElem?_getD, List.getElem?_append]
  split
  · rw [← List.getD_eq_getElem?_getD]
  · rename_i h
    by_cases e : t = L.length
    · simp [e]
    · rw [if_neg e, List.getElem?_eq_none (by simp; omega)]; rfl
theorem kcell_ge {s : Nat} {L : List Nat} {j t : Nat} (h : j ≤ t) : kcell s L j t = lf L t := by
  have := keptTo_le s L j
  rw [kcell, if_neg (by omega)]
theorem kcell_yes {s : Nat} {L : List Nat} {j : Nat} (hj : j < L.length) (h : eqN s (lf L j) = false) :
    kcell s L (j + 1) (keptTo s L j).length = lf L j ∧ ∀ t, t ≠ (keptTo s L j).length → kcell s L (j + 1) t = kcell s L j t := by
  unfold kcell
  rw [keptTo_yes hj h]
  constructor
  · rw [if_pos (by simp), lf_app, if_neg (by omega), if_pos rfl]
  · intro t ht
    rw [List.length_append, List.length_singleton, lf_app]
    by_cases h1 : t < (keptTo s L j).length
    · rw [if_pos (by omega), if_pos h1, if_pos h1]
    · rw [if_neg (by omega), if_neg h1]
theorem kcell_no {s : Nat} {L : List Nat} {j : Nat} (hj : j < L.length) (h : eqN s (lf L j) = true) : kcell s L (j + 1) = kcell s L j := by
  funext t; unfold kcell; rw [keptTo_no hj h]
theorem idxTo_cases (p : Nat → Bool) (n : Nat) : (idxTo p n = -1 ∧ ∀ j, j < n → p j = false) ∨ ∃ k, k < n ∧ idxTo p n = (k : Nat) ∧ p k = true ∧ ∀ j, j < k → p j = false := by
  by_cases h : ∀ j, j < n → p j = false
  · exact .inl ⟨idxTo_miss h, h⟩
  · have : ∃ k, k < n ∧ p k = true := by
      apply Classical.byContradiction
      intro h2
      exact h fun j hj => by
        cases hq : p j
        · rfl
        · exact absurd ⟨j, hj, hq⟩ h2
    have ⟨k, ⟨hk, hp⟩, hmin⟩ : ∃ k, (k < n ∧ p k = true) ∧ ∀ j, j < k → ¬ (j < n ∧ p j = true) := by
      obtain ⟨k, hk⟩ := this
      induction k using Nat.strongRecOn with
      | _ k ih =>
        by_cases hm : ∃ j, j < k ∧ (j < n ∧ p j = true)
        · obtain ⟨j, hj, hj2⟩ := hm
          exact ih j hj hj2
        · exact ⟨k, hk, fun j hj h2 => hm ⟨j, hj, h2⟩⟩
    refine .inr ⟨k, hk, idxTo_hit hk hp (fun j hj => ?_), hp, fun j hj => ?_⟩ <;>
    · cases hq : p j
      · rfl
      · exact absurd ⟨by omega, hq⟩ (hmin j hj)

abbrev uRow (A : Option Addr) (n cap : Nat) (f : Nat → Nat) : LRow := ⟨A, 3, 1, n, cap, fun j => .int .i64 (f j : Nat)⟩
set_option maxHeartbeats 800000 in
theorem delB_lay (p0 kk0 : Int) (L : List Nat) (A : Option Addr) (cap b s : Nat) (w0 w : World) (hl : L.length ≤ 1000) (hL : Lay w0 w [uRow A L.length cap (lf L), blk b 32 3 (ofL [.int .i64 p0, .int .i64 kk0, .int .i64 (s : Nat)])]) :
    Calls Try.prog 19 #[.slice A L.length cap, .func (.func 20) #[] #[.pointer (some ⟨b, 0, none⟩)]] w
      (Gives fun v w' => v = .slice A (L.filter (fun x => !eqN s x)).length cap ∧ Lay w0 w' [uRow A (L.filter (fun x => !eqN s x)).length cap (lf (L.filter (fun x => !eqN s x))), blk b 32 3 (ofL [.int .i64 p0, .int .i64 kk0, .int .i64 (s : Nat)])]) := by
  have HL := Lib.hid hL; clear hL
  have HI := Lib.hid (index_Better s A L.length cap w.heap.size b (lf L) w (by unfold maxLen; omega) (HL.out.rd1 0 rfl) (HL.out.cellB 1 rfl 2 (by omega)))
  rcases idxTo_cases (fun j => eqN s (lf L j)) L.length with ⟨he, hall⟩ | ⟨k0, hk0, he, hp, hall⟩
  · have hf : L.filter (fun x => !eqN s x) = L := by
      rw [← keptTo_end, keptTo_all (Nat.le_refl _) hall, List.take_length]
    rw [hf]
    have HI2 := Lib.hid (int_is HI.out he)
    clear HI hall hf
    go_enter Try.func19, Try.ntmps19
    go_wp2_with (go_at_call 28; refine HI2.out.mono ?_; rintro e w' ⟨rfl, rfl⟩)
    go_ret
    exact ⟨_, rfl, rfl, HL.out⟩
  · have HI2 := Lib.hid (int_is HI.out he)
    have HK : Hid (keptTo s L k0 = L.take k0) := Lib.hid (keptTo_all (by omega) hall)
    have HP := Lib.hid hp
    have HF : Hid (L.filter (fun x => !eqN s x) = keptTo s L L.length) := Lib.hid (keptTo_end s L).symm
    rw [HF.out]
    obtain ⟨m, hm⟩ : ∃ m, m = L.length := ⟨_, rfl⟩
    have HM := Lib.hid hm
    rw [← hm] at hk0 hl
    clear HI hall hp
    obtain ⟨g, rfl, hg1, hg2, hg3⟩ := (HL.out.own 0 _ rfl).pos (show 0 < L.length by omega)
    obtain ⟨hlc, hcm⟩ := (HL.out.own 0 _ rfl).le
    have hlc : m ≤ cap := by simpa [hm] using hlc
    have hcm : cap ≤ maxLen := hcm
    unfold maxLen at hcm
    clear hg1 hg2 hg3
    rw [← hm] at HI2 ⊢
    clear hm
    have H0 : Hid (Lay w0 w [uRow (some ⟨g, 0, none⟩) m cap (kcell s L (k0 + 1)), blk b 32 3 (ofL [.int .i64 p0, .int .i64 kk0, .int .i64 (s : Nat)])]) := by
      refine Lib.hid ?_
      have := HL.out.congr 0 (fun j => .int .i64 (kcell s L (k0 + 1) j : Nat)) rfl (fun j hj => ?_)
      · rw [HM.out]; exact this
      · show Value.int .i64 (lf L j : Nat) = .int .i64 (kcell s L (k0 + 1) j : Nat)
        congr 2
        rw [kcell_no (by rw [← HM.out]; exact hk0) HP.out, kcell, HK.out]
        split
        · rename_i h
          have h2 : j < k0 := by simpa using (Nat.lt_of_lt_of_le h (List.length_take_le _ _))
          rw [lf_at (by rw [← HM.out]; omega), lf_at h, List.getElem_take]
        · rfl
    have HN : Hid ((keptTo s L (k0 + 1)).length = k0) := Lib.hid (by
      rw [keptTo_no (by rw [← HM.out]; exact hk0) HP.out, HK.out, List.length_take]
      rw [← HM.out]; omega)
    clear HL HK HP
    have hk1 : ((k0 : Int) == -1) = false := by rw [beq_eq_false_iff_ne]; omega
    go_enter Try.func19, Try.ntmps19
    go_wp2_with (go_at_call 28; refine HI2.out.mono ?_; rintro e w' ⟨rfl, rfl⟩)
    clear HI2
    go_loopw [5, 6] (fun iv jv wr => ∃ j i : Nat, j ≤ m ∧ i < j ∧ jv = .int .i64 j ∧ iv = .int .i64 i ∧ Hid ((keptTo s L j).length = i) ∧ Hid (Lay w0 wr [uRow (some ⟨g, 0, none⟩) m cap (kcell s L j), blk b 32 3 (ofL [.int .i64 p0, .int .i64 kk0, .int .i64 (s : Nat)])])) (fun _ jv _ => m - (intOf jv).toNat)
    case atStart => exact ⟨k0 + 1, k0, by omega, by omega, by go_num, rfl, HN, H0⟩
    case round =>
      obtain ⟨j, i, hj, hij, rfl, rfl, HI, HL⟩ := hrel
      by_cases hlt : j < m
      · have hcj : wr.cell? ⟨g, j, none⟩ = some (.int .i64 (lf L j : Nat)) := by
          rw [← kcell_ge (s := s) (Nat.le_refl j)]; exact HL.out.cell1 0 rfl hlt
        have hfz := HL.out.frz 0 rfl (by omega) i
        have HC := Lib.hid (betC_any (lf L j) s b wr (HL.out.cellB 1 rfl 2 (by omega)))
        cases hq : eqN s (lf L j)
        · have HQ := Lib.hid hq; clear hq
          have HY := Lib.hid (kcell_yes (L := L) (by rw [← HM.out]; exact hlt) HQ.out)
          have hci := HL.out.cell1 0 rfl (show i < m by omega)
          have HL2 : Hid (Lay w0 (wr.setCell ⟨g, i, none⟩ (.int .i64 (lf L j : Nat))) [uRow (some ⟨g, 0, none⟩) m cap (kcell s L (j + 1)), blk b 32 3 (ofL [.int .i64 p0, .int .i64 kk0, .int .i64 (s : Nat)])]) := by
            refine Lib.hid (HL.out.set 0 (fun t => .int .i64 (kcell s L (j + 1) t : Nat)) rfl (by omega) ?_ (fun t _ ht => ?_))
            · have := HY.out.1; rw [HI.out] at this; rw [this]
            · have := HY.out.2 t (by rw [HI.out]; exact ht); rw [this]
          have HN2 : Hid ((keptTo s L (j + 1)).length = i + 1) := Lib.hid (by rw [keptTo_yes (by rw [← HM.out]; exact hlt) HQ.out, List.length_append, HI.out]; rfl)
          clear HL
          go_wp2_with (go_at_call 20; refine (bool_is HC.out HQ.out).mono ?_; rintro e w' ⟨rfl, rfl⟩)
          go_roundw
          case rel => exact ⟨j + 1, i + 1, by omega, by omega, by go_num, by go_num, HN2, HL2⟩
          case measure => simp [intOf]; omega
        · have HQ := Lib.hid hq; clear hq
          have HL2 : Hid (Lay w0 wr [uRow (some ⟨g, 0, none⟩) m cap (kcell s L (j + 1)), blk b 32 3 (ofL [.int .i64 p0, .int .i64 kk0, .int .i64 (s : Nat)])]) := by
            rw [kcell_no (by rw [← HM.out]; exact hlt) HQ.out]; exact HL
          have HN2 : Hid ((keptTo s L (j + 1)).length = i) := Lib.hid (by rw [keptTo_no (by rw [← HM.out]; exact hlt) HQ.out, HI.out])
          clear HL
          go_wp2_with (go_at_call 20; refine (bool_is HC.out HQ.out).mono ?_; rintro e w' ⟨rfl, rfl⟩)
          go_roundw
          case rel => exact ⟨j + 1, i, by omega, by omega, by go_num, rfl, HN2, HL2⟩
          case measure => simp [intOf]; omega
      · obtain rfl : j = m := by omega
        have hcl : ∀ ty, (Builtin.clear_ #[23] ty #[.slice (some ⟨g, i, none⟩) (j - i) (cap - i)]).run Try.prog wr = .ok (.tuple #[]) (wr.setCells g i (List.replicate (j - i) (.int .i64 0))) := by
          intro ty
          refine Lib.run_clear_slice wr _ _ ty _ Try.underlying23 (fun w => rfl) rfl rfl g i (j - i) (cap - i) (by omega) (fun t ht => ?_) (fun t _ => HL.out.frz 0 rfl (by omega) _)
          rw [HL.out.cell1 0 rfl (show i + t < j by omega)]; rfl
        obtain ⟨W1, hW1⟩ : ∃ W1, W1 = wr.setCells g i (List.replicate (j - i) (.int .i64 0)) := ⟨_, rfl⟩
        rw [← hW1] at hcl
        have HE : Hid (Lay w0 W1 [uRow (some ⟨g, 0, none⟩) (keptTo s L j).length cap (lf (keptTo s L j)), blk b 32 3 (ofL [.int .i64 p0, .int .i64 kk0, .int .i64 (s : Nat)])]) := by
          refine Lib.hid ?_
          obtain ⟨F', hF, h2⟩ := Lay.clear (List.replicate (j - i) (.int .i64 0)) i wr _ (by simp; omega) HL.out
          rw [← hW1] at h2
          rw [HI.out]
          have h3 := (h2.less (show i ≤ j by omega)).congr 0 (fun t => .int .i64 (lf (keptTo s L j) t : Nat)) rfl (fun t ht => ?_)
          · exact h3
          · have ht : t < i := by simpa using ht
            show F' t = _
            rw [hF t ht]
            show Value.int .i64 (kcell s L j t : Nat) = _
            rw [kcell, if_pos (by rw [HI.out]; exact ht)]
        clear hW1 HL
        have hci : ¬ (cap = i) := by omega
        go_wp2
        go_ret
        exact ⟨_, rfl, by rw [HI.out]; first | rfl | (simp; done) | (congr 1 <;> simp), HE.out⟩
end Go.Proofs.Ythonnpimfidkdaa
