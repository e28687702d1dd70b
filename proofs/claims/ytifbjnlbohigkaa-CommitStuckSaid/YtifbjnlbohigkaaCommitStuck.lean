/- The law CommitStuck, walked. -/
import Derived.Test.YtifbjnlbohigkaaCommitEnds
set_option linter.unusedVariables false
set_option linter.unusedSimpArgs false
namespace Go.Proofs.Ytifbjnlbohigkaa
open Go.RowKit

/-- Two moves. -/
def Mv2 (k k' : Int) : Mv := ⟨fun j => if j = 0 then k else k', fun _ => 0, fun _ => 0, fun _ => 0⟩
theorem mv2_cells (k k' : Int) : ∀ j, j < 2 * 4 → (#[Value.int .i64 k, .int .i64 0, .int .i64 0, .int .i64 0, .int .i64 k', .int .i64 0, .int .i64 0, .int .i64 0])[j]? = some (mvF (Mv2 k k') j) := by
  intro j hj
  rcases (by omega : j = 0 ∨ j = 1 ∨ j = 2 ∨ j = 3 ∨ j = 4 ∨ j = 5 ∨ j = 6 ∨ j = 7) with rfl | rfl | rfl | rfl | rfl | rfl | rfl | rfl <;> rfl
def StuP (n : Nat) (k f v : Int) (s : Nat) : Prop := (s + 1 < n → k = 1 ∧ f = (s + 1 : Nat) ∧ v = 1) ∧ (s + 1 = n → k = 2) ∧ (s = n → k = 4) ∧ (n < s → k = 6)

set_option maxRecDepth 100000 in
set_option maxHeartbeats 6400000 in
theorem commitStuck_good (n m cap : Nat) (A : Option Addr) (M : Mv) (w : World) (hr : Rd w w.heap.size A (m * 4) (mvF M)) (h2 : 2 ≤ n) (h6 : n ≤ 6) (hm : m ≤ 40) :
    Calls Try.prog 5 #[.int .i64 n, .slice A m cap] w fun e w' => e = .returned (.bool true) ∧ Below w.heap.size w w' := by
  have HR := Lib.hid hr; clear hr
  have h2i : (2 : Int) ≤ (n : Int) := by omega
  go_enter Try.func5, Try.ntmps5
  go_wp2
  go_loopw [7, 8] (fun l i wr => ∃ (t : Nat) (A' : Option Addr) (cap' : Nat) (M' : Mv), t + 1 ≤ n ∧ i = .int .i64 (t + 1 : Nat) ∧ l = .slice A' t cap' ∧ Hid (Lay w wr [mvs A' t cap' M']) ∧ Hid (∀ s, s < t → M'.k s = 1 ∧ M'.f s = (s + 1 : Nat) ∧ M'.v s = 1)) (fun _ i _ => n - (intOf i).toNat)
  case atStart => exact ⟨0, none, 0, Z0, by omega, rfl, rfl, (Lay.nil w).lnil _ _ _, fun s hs => absurd hs (by omega)⟩
  case round =>
    obtain ⟨t, A1, cap1, M1, htn, rfl, rfl, HL, HT⟩ := hrel
    have hz := HL.out.size
    by_cases htN : t + 1 < n
    · go_wp2_with (at_builtin; refine wpList_apMv rfl (.tmp 36) (.tmp 39) rfl w.heap.size rfl wr.heap.size _ _ _ _ rfl rfl (HL.out.own 0 _ rfl) rfl (by omega) HL.out.size ?_; intro A2 c2 w2 ho2 hg2 ha2
                   have HL2 := Lib.hid ((HL.out.alloc _).app 0 rfl ho2 hg2 ha2)
                   clear ho2 hg2 ha2)
      have HT2 : Hid (∀ s, s < t + 1 → (M1.push t 1 (t + 1 : Nat) 0 1).k s = 1 ∧ (M1.push t 1 (t + 1 : Nat) 0 1).f s = (s + 1 : Nat) ∧ (M1.push t 1 (t + 1 : Nat) 0 1).v s = 1) :=
        push_fact (q := t) (P := fun k f t' v s => k = 1 ∧ f = (s + 1 : Nat) ∧ v = 1) (fun s hs => HT.out s hs) ⟨rfl, rfl, rfl⟩
      go_roundw
      case rel => exact ⟨t + 1, A2, c2, _, by omega, by go_num, rfl, HL2, HT2⟩
      case measure => simp [intOf]; omega
    · obtain rfl : n = t + 1 := by omega
      go_wp2_with (at_builtin; refine wpList_apMvs rfl (.tmp 41) (.tmp 44) rfl w.heap.size rfl ((HL.out.alloc _).own 0 _ rfl) rfl (cell_new _ _ _ _ _ rfl (mv2_cells 2 4)) (t + 2) (by omega) (by unfold maxLen; omega) (by omega) (by simp; omega) ?_; intro A2 c2 w2 ho2 hg2 ha2
                   have HL2 := Lib.hid ((HL.out.alloc _).app 0 rfl ho2 hg2 ha2)
                   clear ho2 hg2 ha2)
      have HT2 : Hid (∀ s, s < t + 2 → StuP (t + 1) ((M1.app t (Mv2 2 4)).k s) ((M1.app t (Mv2 2 4)).f s) ((M1.app t (Mv2 2 4)).v s) s) := by
        show ∀ _, _
        intro s hs
        by_cases e : s < t
        · obtain ⟨a, b, _, d⟩ := app_old M1 t (Mv2 2 4) e
          rw [a, b, d]
          exact ⟨fun _ => HT.out s e, fun h => absurd h (by omega), fun h => absurd h (by omega), fun h => absurd h (by omega)⟩
        · rcases (show s = t + 0 ∨ s = t + 1 by omega) with h | h
          · obtain ⟨a, _, _, _⟩ := app_new M1 t (Mv2 2 4) 0
            rw [← h] at a
            exact ⟨fun h => absurd h (by omega), fun _ => a, fun h => absurd h (by omega), fun h => absurd h (by omega)⟩
          · obtain ⟨a, _, _, _⟩ := app_new M1 t (Mv2 2 4) 1
            rw [← h] at a
            exact ⟨fun h => absurd h (by omega), fun h => absurd h (by omega), fun _ => a, fun h => absurd h (by omega)⟩
      clear HL HT hz
      go_loopw [7, 48] (fun l i wr => ∃ (j : Nat) (A' : Option Addr) (cap' : Nat) (M' : Mv), j ≤ m ∧ i = .int .i64 (j : Nat) ∧ l = .slice A' (t + 2 + j) cap' ∧ Hid (Lay w wr [mvs A' (t + 2 + j) cap' M']) ∧ Hid (∀ s, s < t + 2 + j → StuP (t + 1) (M'.k s) (M'.f s) (M'.v s) s)) (fun _ i _ => m - (intOf i).toNat)
      case atStart => exact ⟨0, A2, c2, _, by omega, rfl, rfl, HL2, HT2⟩
      case round =>
        clear HL2 HT2
        obtain ⟨j, A1, cap1, M1, hj, rfl, rfl, HL, HT⟩ := hrel
        have hz := HL.out.size
        by_cases hjN : j < m
        · obtain ⟨ad, rfl, hbl, m0, m1, m2, m3⟩ := (HR.out.below HL.out.bel).rec4 hjN
          clear hbl
          go_wp2_with (at_builtin; refine wpList_apMv rfl (.tmp 53) (.tmp 55) rfl w.heap.size rfl (wr.heap.size + 1) _ _ _ _ rfl (by simp) ((HL.out.alloc _).own 0 _ rfl) rfl (by omega) (by simp; omega) ?_; intro A2 c2 w2 ho2 hg2 ha2
                       have HL2 := Lib.hid (((HL.out.alloc _).alloc _).app 0 rfl ho2 hg2 ha2)
                       clear ho2 hg2 ha2)
          have HT2 : Hid (∀ s, s < t + 2 + (j + 1) → StuP (t + 1) ((M1.push (t + 2 + j) 6 (M.f j) (M.t j) (M.v j)).k s) ((M1.push (t + 2 + j) 6 (M.f j) (M.t j) (M.v j)).f s) ((M1.push (t + 2 + j) 6 (M.f j) (M.t j) (M.v j)).v s) s) :=
            push_fact (q := t + 2 + j) (P := fun k f t' v s => StuP (t + 1) k f v s) (fun s hs => HT.out s hs) ⟨fun h => absurd h (by omega), fun h => absurd h (by omega), fun h => absurd h (by omega), fun _ => rfl⟩
          go_roundw
          case rel => exact ⟨j + 1, A2, c2, _, by omega, by go_num, rfl, HL2, HT2⟩
          case measure => simp [intOf]; omega
        · obtain rfl : j = m := by omega
          have HD := Lib.hid (com_stuck (n := t + 1) (q := j) (M := M1) h2 (fun i h3 h4 => by have := (HT.out (i - 1) (by omega)).1 (by omega); rw [show i - 1 + 1 = i by omega] at this; exact this) ((HT.out t (by omega)).2.1 (by omega)) ((HT.out (t + 1) (by omega)).2.2.1 rfl) (fun i hi => (HT.out (t + 2 + i) (by omega)).2.2.2 (by omega)))
          go_wp2_with fail
          refine (com_good (t + 1) (t + 2 + j) cap1 _ A1 M1 wr (by omega) h6 (by omega) (Nat.le_refl _) (HL.out.own 0 _ rfl).rd).mono ?_
          rintro e w4 ⟨v, rfl, g, gs, gg, gy, A4, c4, rfl, hL4⟩
          have HL4 := Lib.hid (HL.out.join hL4)
          clear hL4 HL HT
          have HD0 := HD.out.1
          have HD1 := Lib.hid HD.out.2
          clear HD
          have r0 := HL4.out.cell1 1 rfl (j := 0) (by omega)
          rw [HD0] at r0
          have hbz := (HL4.out.at_ 1 rfl).2
          clear HD0
          go_upto_region 19 with (fail)
          clear r0 hbz
          have HL5 := Lib.hid (HL4.out.newB [.slice A4 (t + 2 + j) c4, .slice (some ⟨gs, 0, none⟩) (t + 1) (t + 1)] 26 2 rfl _ rfl)
          clear HL4
          refine at_lay (F := fun W' => Code.wp _ _ _ _ W') HL5.out ?_
          intro W hW
          have HW := Lib.hid hW
          clear hW HL5
          generalize w4.heap.size = b at HW ⊢
          have c1' := HW.out.cellB 0 rfl 1 (by omega)
          simp only [ofL_1] at c1'
          have HRI := Lib.hid (fun p (hp : p < t + 1) => HW.out.cell1 2 rfl (j := p) hp)
          have HBL := Lib.hid HW.out.bel
          clear HW
          go_wp2
          go_loop [13] (fun p => ∃ a : Nat, 1 ≤ a ∧ a ≤ t + 1 ∧ p = .int .i64 a) (fun p => t + 1 - (intOf p).toNat)
          case atStart => exact ⟨1, by omega, by omega, rfl⟩
          case round =>
            obtain ⟨a, ha1, ha, rfl⟩ := hrel
            by_cases han : a < t + 1
            · have r1 := HRI.out a han
              rw [HD1.out a ha1 han] at r1
              go_wp2
              go_round
              case rel => exact ⟨a + 1, by omega, by omega, by go_num⟩
              case measure => simp [intOf]; omega
            · go_wp2
              go_ret
              exact ⟨rfl, HBL.out⟩
theorem commitStuck_bad (n : Int) (m cap : Nat) (A : Option Addr) (w : World) (hm : m ≤ maxLen) (h : n < 2 ∨ 6 < n ∨ 40 < m) :
    Calls Try.prog 5 #[.int .i64 n, .slice A m cap] w fun e w' => e = .returned (.bool true) ∧ Below w.heap.size w w' := by
  unfold maxLen at hm
  go_enter Try.func5, Try.ntmps5
  go_wp2_with fail
  all_goals first
    | (exfalso; omega)
    | (refine (com_bad 0 0 0 none w (by unfold maxLen; omega) (by omega)).mono ?_
       rintro e w1 ⟨rfl, hb1⟩
       have HB1 := Lib.hid hb1; clear hb1
       go_wp2
       go_ret
       exact ⟨rfl, HB1.out.alloc HB1.out.size _⟩)
theorem commitStuck_all (n : Int) (A : Option Addr) (m cap : Nat) (M : Mv) (w : World) (_ : (Lit.int .i64 n).wf = true) (hmc : m ≤ cap ∧ cap ≤ maxLen) (hr : Rd w w.heap.size A (m * 4) (mvF M)) :
    Calls Try.prog 5 #[.int .i64 n, .slice A m cap] w fun e w' => e = .returned (.bool true) ∧ Below w.heap.size w w' := by
  by_cases h : n < 2 ∨ 6 < n ∨ 40 < m
  · exact commitStuck_bad n m cap A w (by omega) h
  · obtain ⟨k, rfl⟩ := Int.eq_ofNat_of_zero_le (show 0 ≤ n by omega)
    exact commitStuck_good k m cap A M w hr (by omega) (by omega) (by omega)
end Go.Proofs.Ytifbjnlbohigkaa
