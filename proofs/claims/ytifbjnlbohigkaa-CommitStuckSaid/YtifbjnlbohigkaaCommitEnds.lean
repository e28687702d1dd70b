/- The law CommitEnds, walked. -/
import Derived.Test.YtifbjnlbohigkaaCommitStays
set_option linter.unusedVariables false
set_option linter.unusedSimpArgs false
namespace Go.Proofs.Ytifbjnlbohigkaa
open Go.RowKit

abbrev Z0 : Mv := ⟨fun _ => 0, fun _ => 0, fun _ => 0, fun _ => 0⟩
abbrev mvs (A : Option Addr) (q cap : Nat) (M : Mv) : LRow := ⟨A, 33, 4, q, cap, mvF M⟩
/-- A move is put behind. -/
theorem push_fact {M : Mv} {q : Nat} {k f t v : Int} {P : Int → Int → Int → Int → Nat → Prop} (h : ∀ s, s < q → P (M.k s) (M.f s) (M.t s) (M.v s) s) (hn : P k f t v q) : ∀ s, s < q + 1 → P ((M.push q k f t v).k s) ((M.push q k f t v).f s) ((M.push q k f t v).t s) ((M.push q k f t v).v s) s := by
  intro s hs
  by_cases e : s = q
  · subst e
    obtain ⟨a, b, c, d⟩ := push_at M s k f t v
    rw [a, b, c, d]; exact hn
  · obtain ⟨a, b, c, d⟩ := push_other M q k f t v e
    rw [a, b, c, d]; exact h s (by omega)
def EndP (m i e : Nat) (k f t : Int) (s : Nat) : Prop := (∀ j, s = m + j → j < i → k = 5 ∧ f = j) ∧ (s = m + i → k = 2) ∧ ∀ j, s = m + e + j → 1 ≤ j → k = 3 ∧ t = j

set_option maxRecDepth 100000 in
set_option maxHeartbeats 6400000 in
theorem commitEnds_go (n : Int) (m cap : Nat) (A : Option Addr) (M : Mv) (w : World) (hr : Rd w w.heap.size A (m * 4) (mvF M)) (hm : m ≤ 40) :
    Calls Try.prog 6 #[.int .i64 n, .slice A m cap] w fun e w' => e = .returned (.bool true) ∧ Below w.heap.size w w' := by
  have HR := Lib.hid hr; clear hr
  go_enter Try.func6, Try.ntmps6
  go_wp2_with (first
    | (at_builtin; refine wpList_apMvs rfl (.tmp 14) (.tmp 15) rfl w.heap.size rfl (Own.empty _ _ _ _ (mvF Z0) _ (by simp) (by simp)) rfl (HR.out.alloc (Nat.le_refl _) _) m (Nat.zero_add m) (by unfold maxLen; omega) (by omega) (by simp) ?_; intro A3 c3 w3 ho3 hg3 ha3
       have HL3 : Hid (Lay w w3 [mvs A3 m c3 (Z0.app 0 M)]) := (((Lay.nil w).new #[] 33 4 0 (mvF Z0) _ rfl rfl (by unfold maxLen; omega) (fun j hj => absurd hj (by omega))).app 0 rfl ho3 hg3 ha3)
       clear ho3 hg3 ha3)
    | fail)
  go_loopw [5, 6] (fun l i wr => ∃ (t : Nat) (A' : Option Addr) (cap' : Nat) (M' : Mv), t ≤ 6 ∧ ((t : Int) ≤ n ∨ t = 0) ∧ i = .int .i64 (t : Nat) ∧ l = .slice A' (m + t) cap' ∧ Hid (Lay w wr [mvs A' (m + t) cap' M']) ∧ Hid (∀ s, s < m + t → EndP m t (t + 1) (M'.k s) (M'.f s) (M'.t s) s)) (fun _ i _ => 6 - (intOf i).toNat)
  case atStart => exact ⟨0, A3, c3, _, by omega, .inr rfl, rfl, rfl, HL3, fun s hs => ⟨fun j h1 h2 => absurd h2 (by omega), fun h => absurd h (by omega), fun j h => absurd h (by omega)⟩⟩
  case round =>
    clear HL3
    obtain ⟨t, A1, cap1, M1, ht, htn, rfl, rfl, HL, HT⟩ := hrel
    have hz := HL.out.size
    by_cases htN : (t : Int) < n ∧ t < 6
    · obtain ⟨ha, hb⟩ := htN
      clear htn
      go_wp2_with (at_builtin; refine wpList_apMv rfl (.tmp 26) (.tmp 29) rfl w.heap.size rfl wr.heap.size _ _ _ _ rfl rfl (HL.out.own 0 _ rfl) rfl (by omega) HL.out.size ?_; intro A2 c2 w2 ho2 hg2 ha2
                   have HL2 := Lib.hid ((HL.out.alloc _).app 0 rfl ho2 hg2 ha2)
                   clear ho2 hg2 ha2)
      have HT2 : Hid (∀ s, s < m + (t + 1) → EndP m (t + 1) (t + 1 + 1) ((M1.push (m + t) 5 t 0 0).k s) ((M1.push (m + t) 5 t 0 0).f s) ((M1.push (m + t) 5 t 0 0).t s) s) :=
        push_fact (q := m + t) (P := fun k f t' _ s => EndP m (t + 1) (t + 1 + 1) k f t' s) (fun s (hs : s < m + t) => ⟨fun j h1 h2 => (HT.out s hs).1 j h1 (by omega), fun h => absurd h (by omega), fun j h => absurd h (by omega)⟩) ⟨fun j h1 h2 => ⟨rfl, by omega⟩, fun h => absurd h (by omega), fun j h => absurd h (by omega)⟩
      go_roundw
      case rel => exact ⟨t + 1, A2, c2, _, by omega, .inl (by push_cast; omega), by go_num, rfl, HL2.out, HT2⟩
      case measure => simp [intOf]; omega
    · rcases (show ((t : Int) < n ∧ 6 ≤ t) ∨ n ≤ (t : Int) by omega) with ⟨hl, hg⟩ | hl
      all_goals
        have htE : 1 ≤ n ∧ n ≤ 6 → n = (t : Int) := by omega
        have HTE := Lib.hid htE
        clear htE htN htn
        go_wp2_with (at_builtin; refine wpList_apMv rfl (.tmp 31) (.tmp 33) rfl w.heap.size rfl wr.heap.size _ _ _ _ rfl rfl (HL.out.own 0 _ rfl) rfl (by omega) HL.out.size ?_; intro A2 c2 w2 ho2 hg2 ha2
                     have HL2 := Lib.hid ((HL.out.alloc _).app 0 rfl ho2 hg2 ha2)
                     clear ho2 hg2 ha2)
        have HT2 : Hid (∀ s, s < m + t + 1 → EndP m t t ((M1.push (m + t) 2 0 0 0).k s) ((M1.push (m + t) 2 0 0 0).f s) ((M1.push (m + t) 2 0 0 0).t s) s) :=
          push_fact (q := m + t) (P := fun k f t' _ s => EndP m t t k f t' s) (fun s (hs : s < m + t) => ⟨(HT.out s hs).1, (HT.out s hs).2.1, fun j h => absurd h (by omega)⟩) ⟨fun j h1 h2 => absurd h2 (by omega), fun _ => rfl, fun j h1 h2 => absurd h1 (by omega)⟩
        clear HL HT hz
        go_loopw [5, 7] (fun l i wr => ∃ (j : Nat) (A' : Option Addr) (cap' : Nat) (M' : Mv), 1 ≤ j ∧ j ≤ 6 ∧ ((j : Int) ≤ n ∨ j = 1) ∧ i = .int .i64 (j : Nat) ∧ l = .slice A' (m + t + j) cap' ∧ Hid (Lay w wr [mvs A' (m + t + j) cap' M']) ∧ Hid (∀ s, s < m + t + j → EndP m t t (M'.k s) (M'.f s) (M'.t s) s)) (fun _ i _ => 6 - (intOf i).toNat)
        case atStart => exact ⟨1, A2, c2, _, by omega, by omega, .inr rfl, rfl, rfl, HL2.out, HT2⟩
        case round =>
          clear HL2 HT2
          obtain ⟨j, A1, cap1, M1, hj1, hj6, hjn, rfl, rfl, HL, HT⟩ := hrel
          have hz := HL.out.size
          by_cases hjN : (j : Int) < n ∧ j < 6
          · obtain ⟨ha, hb⟩ := hjN
            clear hjn
            go_wp2_with (at_builtin; refine wpList_apMv rfl (.tmp 44) (.tmp 47) rfl w.heap.size rfl wr.heap.size _ _ _ _ rfl rfl (HL.out.own 0 _ rfl) rfl (by omega) HL.out.size ?_; intro A2 c2 w2 ho2 hg2 ha2
                         have HL2 := Lib.hid ((HL.out.alloc _).app 0 rfl ho2 hg2 ha2)
                         clear ho2 hg2 ha2)
            have HT2 : Hid (∀ s, s < m + t + (j + 1) → EndP m t t ((M1.push (m + t + j) 3 0 j 0).k s) ((M1.push (m + t + j) 3 0 j 0).f s) ((M1.push (m + t + j) 3 0 j 0).t s) s) :=
              push_fact (q := m + t + j) (P := fun k f t' _ s => EndP m t t k f t' s) (fun s hs => HT.out s hs) ⟨fun i h1 h2 => absurd h2 (by omega), fun h => absurd h (by omega), fun i h1 h2 => ⟨rfl, by omega⟩⟩
            go_roundw
            case rel => exact ⟨j + 1, A2, c2, _, by omega, by omega, .inl (by push_cast; omega), by go_num, rfl, HL2.out, HT2⟩
            case measure => simp [intOf]; omega
          · by_cases hb : 1 ≤ n ∧ n ≤ 6
            · have hnt := HTE.out hb
              subst hnt
              obtain rfl : j = t := by omega
              have ht1 : 1 ≤ j := hj1
              have HD := Lib.hid (com_ends (n := j) (q := m) (M := M1) hj1 (fun i hi => (HT.out (m + i) (by omega)).1 i rfl hi) ((HT.out (m + j) (by omega)).2.1 rfl) (fun i h1 h2 => (HT.out (m + j + i) (by omega)).2.2 i rfl h1))
              have HB : Hid (playedB j (m + j + j : Nat) = true) := playedB_iff.2 ⟨by omega, by omega, by omega⟩
              have hnl : ¬ (j : Int) < j := by omega
              clear hb hl hjN hjn HTE
              go_wp2_with fail
              refine (com_good j (m + j + j) cap1 _ A1 M1 wr hj1 hj6 (by omega) (Nat.le_refl _) (HL.out.own 0 _ rfl).rd).mono ?_
              rintro e w4 ⟨v, rfl, g, gs, gg, gy, A4, c4, rfl, hL4⟩
              have HL4 := Lib.hid (HL.out.join hL4)
              clear hL4 HL HT
              go_upto_region 18 with (go_at_call 8; refine (bool_is (played_any j (m + j + j : Nat) _) HB.out).mono ?_; rintro e w3 ⟨rfl, rfl⟩)
              have HL5 := Lib.hid (HL4.out.newB [.slice A4 (m + j + j) c4, .slice (some ⟨gs, 0, none⟩) j j] 26 2 rfl _ rfl)
              clear HL4
              refine at_lay (F := fun W' => Code.wp _ _ _ _ W') HL5.out ?_
              intro W hW
              have HW := Lib.hid hW
              clear hW HL5
              generalize w4.heap.size = b at HW ⊢
              have c1' := HW.out.cellB 0 rfl 1 (by omega)
              simp only [ofL_1] at c1'
              have HRI := Lib.hid (fun p (hp : p < j) => HW.out.cell1 2 rfl (j := p) hp)
              have HBL := Lib.hid HW.out.bel
              clear HW HB
              have HSM := Lib.hid (fun p (hp : p < j) => com_same (M := M1) hp (HD.out p hp) (HD.out 0 (by omega)))
              go_wp2
              go_loopw [10] (fun p wr => ∃ a : Nat, a ≤ j ∧ p = .int .i64 a ∧ Hid (Sim W wr)) (fun p _ => j - (intOf p).toNat)
              case atStart => exact ⟨0, by omega, rfl, Lib.hid ⟨rfl, rfl, rfl, rfl⟩⟩
              case round =>
                obtain ⟨a, ha, rfl, HS⟩ := hrel
                by_cases han : a < j
                · have d1 := (cell_sim HS.out _).trans c1'
                  have r1 := (cell_sim HS.out _).trans (HRI.out a han)
                  have r0 := (cell_sim HS.out _).trans (HRI.out 0 (by omega))
                  have hs := HSM.out a han
                  have hd := dec_iff.1 (HD.out a han)
                  rw [hs] at r1 hd
                  clear c1' hs
                  rcases hd with hd | hd
                  all_goals
                    rw [hd] at r0 r1
                    clear hd
                    go_wp2
                    refine wp_text_all (by kernel_rfl) (by kernel_rfl) (by kernel_rfl) (by repeat' (first | (with_reducible apply tame_then) | (with_reducible apply tame_block) | (with_reducible apply tame_scope) | exact tame_gives | exact tame_body (fun _ _ h => ⟨_, h.1⟩))) ?_
                    go_wp2
                    refine headed ?_
                    go_wp2
                    go_roundw
                    case rel => exact ⟨a + 1, by omega, by go_num, HS⟩
                    case measure => simp [intOf]; omega
                · go_wp2
                  go_ret
                  exact ⟨rfl, below_sim HBL.out HS.out⟩
            · have HB : Hid (playedB n (m + t + j : Nat) = false) := by
                show _ = _
                rw [← Bool.not_eq_true, playedB_iff]
                exact fun h => hb ⟨h.1, h.2.1⟩
              rcases (show ((j : Int) < n ∧ 6 ≤ j) ∨ n ≤ (j : Int) by omega) with ⟨hl2, hg2⟩ | hl2
              all_goals
                clear hb hjN hjn HTE
                go_wp2_with fail
                all_goals
                  refine (com_bad' n (m + t + j) cap1 A1 wr (by unfold maxLen; omega) HB.out).mono ?_
                  rintro e w4 ⟨rfl, hb4⟩
                  have HB4 := Lib.hid (HL.out.keep hb4).bel
                  clear hb4 HL HT
                  go_wp2_with (go_at_call 8; refine (bool_is (played_any n (m + t + j : Nat) _) HB.out).mono ?_; rintro e w3 ⟨rfl, rfl⟩)
                  go_ret
                  exact ⟨rfl, HB4.out.alloc HB4.out.size _⟩
theorem commitEnds_long (n : Int) (m cap : Nat) (A : Option Addr) (w : World) (hm : 40 < m) :
    Calls Try.prog 6 #[.int .i64 n, .slice A m cap] w fun e w' => e = .returned (.bool true) ∧ Below w.heap.size w w' := by
  go_enter Try.func6, Try.ntmps6
  go_wp2
  go_ret
  exact ⟨rfl, Below.refl _ _⟩
theorem commitEnds_all (n : Int) (A : Option Addr) (m cap : Nat) (M : Mv) (w : World) (_ : (Lit.int .i64 n).wf = true) (hmc : m ≤ cap ∧ cap ≤ maxLen) (hr : Rd w w.heap.size A (m * 4) (mvF M)) :
    Calls Try.prog 6 #[.int .i64 n, .slice A m cap] w fun e w' => e = .returned (.bool true) ∧ Below w.heap.size w w' := by
  by_cases hm : m ≤ 40
  · exact commitEnds_go n m cap A M w hr hm
  · exact commitEnds_long n m cap A w (by omega)
end Go.Proofs.Ytifbjnlbohigkaa
