/- 'joins', walked. -/
import Derived.Test.YtdgegbdkimdpjaaMeJoin
import Derived.Test.YtdgegbdkimdpjaaMergeRise
set_option linter.unusedVariables false
set_option linter.unusedSimpArgs false
namespace Go.Proofs.Ytdgegbdkimdpjaa
open Go.RowKit Go.Maps Go.MapKept

/-- Two moves. -/
def twoM (i : Int) : Mv := ⟨fun _ => 4, fun q => if q = 0 then 0 else i, fun q => if q = 0 then i else 0, fun _ => 0⟩
theorem two_cells (i : Int) : ∀ q, q < 8 → (#[.int .i64 4, .int .i64 0, .int .i64 i, .int .i64 0, .int .i64 4, .int .i64 i, .int .i64 0, .int .i64 0] : Array Value)[q]? = some (mvF (twoM i) q) := by
  intro q hq
  rcases (show q = 0 ∨ q = 1 ∨ q = 2 ∨ q = 3 ∨ q = 4 ∨ q = 5 ∨ q = 6 ∨ q = 7 by omega) with rfl | rfl | rfl | rfl | rfl | rfl | rfl | rfl <;> rfl
theorem two_is {d j i : Nat} (hi : j % d + 1 = i) : ∀ x, x < (2 * j + 2) * 4 → mvF ((JM d).app (2 * j) (twoM i)) x = mvF (JM d) x := by
  intro x hx
  rcases Nat.lt_or_ge x (2 * j * 4) with h | h
  · exact mvF_app_old _ _ _ h
  · obtain ⟨r, rfl⟩ : ∃ r, x = 2 * j * 4 + r := ⟨x - 2 * j * 4, by omega⟩
    rw [mvF_app_new]
    have h4 : (2 * j * 4 + r) / 4 = 2 * j + r / 4 := by omega
    have h5 : (2 * j * 4 + r) % 4 = r % 4 := by omega
    have hr : r / 4 = 0 ∨ r / 4 = 1 := by omega
    simp only [recF4, h4, h5, JM, twoM]
    rcases hr with e | e
    · have e1 : (2 * j + 0) % 2 = 0 := by omega
      have e2 : (2 * j + 0) / 2 = j := by omega
      rw [e, e1, e2, hi]
    · have e1 : (2 * j + 1) % 2 = 1 := by omega
      have e2 : (2 * j + 1) / 2 = j := by omega
      rw [e, e1, e2, hi]
set_option maxRecDepth 100000 in
set_option maxHeartbeats 3200000 in
theorem joins_any (n : Int) (d : Nat) (w : World) (hd : (n < 1 ∧ d = 0) ∨ (n = (d : Int) + 1 ∧ d ≤ 5) ∨ (6 < n ∧ d = 5)) :
    Calls Try.prog 7 #[.int .i64 n] w fun e w' => ∃ A c, e = .returned (.slice A (4 * d) c) ∧ Lay w w' [mvs A (4 * d) c (JM d)] := by
  have HL0 : Hid (Lay w w [mvs none 0 0 (JM d)]) := Lib.hid ((Lay.nil w).lnil _ _ _)
  go_enter Try.func7, Try.ntmps7
  go_wp2
  go_loopw [3, 4] (fun u v wr => ∃ (A : Option Addr) (q c k e : Nat), u = .slice A q c ∧ v = .int .i64 k ∧ Hid (q = 2 * e) ∧ ((k = 0 ∧ e = 0) ∨ (k = 1 ∧ e = d) ∨ (k = 2 ∧ e = 2 * d)) ∧ Hid (Lay w wr [mvs A q c (JM d)])) (fun _ v _ => 2 - (intOf v).toNat)
  case atStart => exact ⟨none, 0, 0, 0, 0, rfl, rfl, Lib.hid rfl, .inl ⟨rfl, rfl⟩, HL0⟩
  case round =>
    obtain ⟨A, q, c, k, e, rfl, rfl, hq, hk, HL⟩ := hrel
    by_cases hk2 : k < 2
    · obtain ⟨w6, rfl⟩ : ∃ w6, w6 = wr := ⟨_, rfl⟩
      have he : (k = 0 ∧ e = 0) ∨ (k = 1 ∧ e = d) := by omega
      have hkb : decide ((k : Int) < 2) = true := by simp; omega
      clear hk
      go_wp2
      try simp only [hkb]
      go_loopw [3, 5] (fun u v wr => ∃ (A : Option Addr) (q c i : Nat), u = .slice A q c ∧ v = .int .i64 i ∧ Hid (q = 2 * (e + (i - 1))) ∧ i ≤ d + 1 ∧ Hid (Lay w wr [mvs A q c (JM d)])) (fun _ v _ => d + 1 - (intOf v).toNat)
      case atStart => exact ⟨A, q, c, 0, rfl, rfl, hq, by omega, HL⟩
      case round =>
        clear hq
        obtain ⟨A, q, c, i, rfl, rfl, hq, hi, HL⟩ := hrel
        by_cases hin : (i : Int) < n ∧ i < 6
        · have h1 : (i : Int) < n := hin.1
          have h6 : i < 6 := hin.2
          rcases Nat.eq_zero_or_pos i with h0 | h0
          · subst h0
            go_wp2
            go_roundw
            case rel => exact ⟨A, q, c, 1, rfl, by go_num, Lib.hid (by have := hq.out; omega), by omega, HL⟩
            case measure => simp [intOf]
          · have hid : i ≤ d := by omega
            have hmod : (e + (i - 1)) % d + 1 = i := by
              rcases he with ⟨_, rfl⟩ | ⟨_, rfl⟩
              · rw [Nat.zero_add, Nat.mod_eq_of_lt (by omega)]; omega
              · rw [Nat.add_mod_left, Nat.mod_eq_of_lt (by omega)]; omega
            have HTW := Lib.hid (two_is (d := d) (j := e + (i - 1)) hmod)
            have hqb : q ≤ 40 := by have := hq.out; omega
            have HX : Hid (Rd (wr.alloc (.cells #[.int .i64 4, .int .i64 0, .int .i64 (i : Nat), .int .i64 0, .int .i64 4, .int .i64 (i : Nat), .int .i64 0, .int .i64 0] 37)) (wr.heap.size + 1) (some ⟨wr.heap.size, 0, none⟩) (2 * 4) (mvF (twoM i))) := Lib.hid (cell_new wr _ _ (n := 8) _ _ rfl (two_cells i))
            have HL1 := Lib.hid (HL.out.alloc (.cells #[.int .i64 4, .int .i64 0, .int .i64 (i : Nat), .int .i64 0, .int .i64 4, .int .i64 (i : Nat), .int .i64 0, .int .i64 0] 37))
            clear hmod
            go_wp2_with (first
              | (at_builtin; refine wpList_apMvs rfl (.tmp 21) (.tmp 26) rfl w.heap.size rfl (HL1.out.own 0 _ rfl) rfl HX.out (q + 2) rfl (by unfold maxLen; omega) (by omega) HL1.out.size ?_; intro A3 c3 w3 ho3 hg3 ha3
                 have HL3 : Hid (Lay w w3 [mvs A3 (q + 2) c3 (JM d)]) := Lib.hid (((HL1.out.app 0 rfl ho3 hg3 ha3).congr 0 (mvF (JM d)) rfl (by rw [hq.out]; exact HTW.out)))
                 clear ho3 hg3 ha3 HL1 HX)
              | fail)
            go_roundw
            case rel => exact ⟨A3, q + 2, c3, i + 1, rfl, by go_num, Lib.hid (by have := hq.out; omega), by omega, HL3⟩
            case measure => simp [intOf]; omega
        · have hi' : i = 0 ∧ n < 1 ∨ i = d + 1 := by omega
          have HQE : Hid (q = 2 * (e + d)) := Lib.hid (by have := hq.out; omega)
          by_cases h1 : (i : Int) < n
          · have h6 : ¬ i < 6 := by omega
            clear hin
            go_wp2
            go_roundw
            case rel => exact ⟨A, q, c, k + 1, e + d, rfl, by go_num, HQE, by omega, HL⟩
            case measure => simp [intOf]; omega
          · clear hin
            go_wp2
            go_roundw
            case rel => exact ⟨A, q, c, k + 1, e + d, rfl, by go_num, HQE, by omega, HL⟩
            case measure => simp [intOf]; omega
    · obtain rfl : q = 4 * d := by have := hq.out; omega
      go_wp2
      go_ret
      exact ⟨A, c, rfl, HL.out⟩
end Go.Proofs.Ytdgegbdkimdpjaa
