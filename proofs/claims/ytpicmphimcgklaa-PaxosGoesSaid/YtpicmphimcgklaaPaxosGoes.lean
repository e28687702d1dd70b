/- The law PaxosGoes, walked. -/
import Derived.Test.YtpicmphimcgklaaPaxosLater
import Derived.Test.YtpicmphimcgklaaPaxGoes
import Derived.Test.YtpicmphimcgklaaMvApp
set_option linter.unusedVariables false
set_option linter.unusedSimpArgs false
namespace Go.Proofs.Ytpicmphimcgklaa
open Go.RowKit

/-- The list that is made: its moves. -/
structure GL (w wr : World) (A : Option Addr) (q cap : Nat) (M : Mv) : Prop where
  own : Own wr w.heap.size 34 4 A q cap (mvF M)
  bel : Below w.heap.size w wr
theorem GL.alloc {w wr : World} {A : Option Addr} {q cap : Nat} {M : Mv} (h : GL w wr A q cap M) (o : Obj) : GL w (wr.alloc o) A q cap M := ⟨h.own.alloc o, h.bel.alloc h.bel.size o⟩
theorem GL.app {w wr w2 : World} {A A2 : Option Addr} {q cap cap2 : Nat} {M M2 : Mv} {o : Obj} (h : GL w wr A q cap M) (hg : (wr.alloc o).grownBy w2 (ablock A)) (ho : Own w2 w.heap.size 34 4 A2 (q + 1) cap2 (mvF M2)) : GL w w2 A2 (q + 1) cap2 M2 :=
  ⟨ho, (h.bel.alloc h.bel.size o).grown hg (by have := h.bel.size; simp; omega) (fun k hk => (h.own.lt k hk).1)⟩
/-- The moves so far: q of lesser ballots, t that ask. -/
def Ask (M : Mv) (q t : Nat) : Prop := (∀ j, j < q → M.v j < 9) ∧ ∀ s, s < t → M.k (q + s) = 1 ∧ M.f (q + s) = s ∧ M.v (q + s) = 9
def Tak (M : Mv) (q n t : Nat) : Prop := Ask M q n ∧ (M.k (q + n) = 2 ∧ M.v (q + n) = 9) ∧ ∀ s, s < t → M.k (q + n + 1 + s) = 3 ∧ M.f (q + n + 1 + s) = s ∧ M.v (q + n + 1 + s) = 9
theorem Ask.push {M : Mv} {q t : Nat} (h : Ask M q t) (x : Int) : Ask (M.push (q + t) 1 t x 9) q (t + 1) := by
  refine ⟨fun j hj => ?_, fun s hs => ?_⟩
  · rw [(push_other M (q + t) 1 t x 9 (by omega)).2.2.2]; exact h.1 j hj
  · by_cases e : s = t
    · subst e; obtain ⟨h1, h2, _, h4⟩ := push_at M (q + s) 1 s x 9; exact ⟨h1, h2, h4⟩
    · obtain ⟨h1, h2, _, h4⟩ := push_other M (q + t) 1 t x 9 (j := q + s) (by omega)
      rw [h1, h2, h4]; exact h.2 s (by omega)
theorem Ask.off {M : Mv} {q n : Nat} (h : Ask M q n) (x y : Int) : Tak (M.push (q + n) 2 x y 9) q n 0 := by
  refine ⟨⟨fun j hj => ?_, fun s hs => ?_⟩, ⟨(push_at M (q + n) 2 x y 9).1, (push_at M (q + n) 2 x y 9).2.2.2⟩, fun s hs => by omega⟩
  · rw [(push_other M (q + n) 2 x y 9 (by omega)).2.2.2]; exact h.1 j hj
  · obtain ⟨h1, h2, _, h4⟩ := push_other M (q + n) 2 x y 9 (j := q + s) (by omega)
    rw [h1, h2, h4]; exact h.2 s hs
theorem Tak.push {M : Mv} {q n t : Nat} (h : Tak M q n t) (x : Int) : Tak (M.push (q + n + 1 + t) 3 t x 9) q n (t + 1) := by
  obtain ⟨⟨a1, a2⟩, ⟨o1, o2⟩, a3⟩ := h
  refine ⟨⟨fun j hj => ?_, fun s hs => ?_⟩, ⟨?_, ?_⟩, fun s hs => ?_⟩
  · rw [(push_other M (q + n + 1 + t) 3 t x 9 (by omega)).2.2.2]; exact a1 j hj
  · obtain ⟨h1, h2, _, h4⟩ := push_other M (q + n + 1 + t) 3 t x 9 (j := q + s) (by omega)
    rw [h1, h2, h4]; exact a2 s hs
  · rw [(push_other M (q + n + 1 + t) 3 t x 9 (j := q + n) (by omega)).1]; exact o1
  · rw [(push_other M (q + n + 1 + t) 3 t x 9 (j := q + n) (by omega)).2.2.2]; exact o2
  · by_cases e : s = t
    · subst e; obtain ⟨h1, h2, _, h4⟩ := push_at M (q + n + 1 + s) 3 s x 9; exact ⟨h1, h2, h4⟩
    · obtain ⟨h1, h2, _, h4⟩ := push_other M (q + n + 1 + t) 3 t x 9 (j := q + n + 1 + s) (by omega)
      rw [h1, h2, h4]; exact a3 s (by omega)
theorem Tak.goes {M : Mv} {q n : Nat} (h : Tak M q n n) : GoesM n M q := ⟨h.1.1, h.1.2, h.2.1, h.2.2⟩

set_option maxRecDepth 100000 in
set_option maxHeartbeats 3200000 in
theorem paxosGoes_go (n : Int) (m cap : Nat) (A : Option Addr) (M : Mv) (w : World) (hr : Rd w w.heap.size A (m * 4) (mvF M)) (hm : m ≤ 40) :
    Calls Try.prog 5 #[.int .i64 n, .slice A m cap] w fun e w' => e = .returned (.bool true) ∧ Below w.heap.size w w' := by
  have HR := Lib.hid hr; clear hr
  go_enter Try.func5, Try.ntmps5
  go_wp2
  go_loopw [5, 18] (fun l i wr => ∃ j q A' cap' M', j ≤ m ∧ q ≤ j ∧ i = .int .i64 (j : Nat) ∧ l = .slice A' q cap' ∧ Hid (GL w wr A' q cap' M') ∧ Hid (Ask M' q 0)) (fun _ i _ => m - (intOf i).toNat)
  case atStart => exact ⟨0, 0, none, 0, ⟨fun _ => 0, fun _ => 0, fun _ => 0, fun _ => 0⟩, by omega, by omega, rfl, rfl, ⟨Own.nil_ _ _ _ _ _, Below.refl _ _⟩, ⟨fun j hj => by omega, fun j hj => by omega⟩⟩
  case round =>
    obtain ⟨j, q, A', cap', M', hj, hqj, rfl, rfl, HL, HA⟩ := hrel
    by_cases hlt : j < m
    · obtain ⟨ad, rfl, hbl, k0, k1, k2, k3⟩ := (HR.out.below HL.out.bel).rec4 hlt
      clear hbl
      have hz := HL.out.bel.size
      by_cases hv : M.v j < 9
      · go_wp2_with (at_builtin; refine wpList_apMv rfl (.tmp 25) (.tmp 27) rfl w.heap.size rfl (wr.heap.size + 1) _ _ _ _ rfl (by simp) (HL.out.own.alloc _) rfl (by omega) (by simp; omega) ?_; intro A2 c2 w2 ho2 hg2 ha2)
        have HL2 := Lib.hid ((HL.out.alloc _).app hg2 ho2)
        have HA2 : Hid (Ask (M'.push q (M.k j) (M.f j) (M.t j) (M.v j)) (q + 1) 0) := by
          refine ⟨fun s hs => ?_, fun s hs => by omega⟩
          by_cases e : s = q
          · subst e; rw [(push_at M' s (M.k j) (M.f j) (M.t j) (M.v j)).2.2.2]; exact hv
          · rw [(push_other M' q (M.k j) (M.f j) (M.t j) (M.v j) e).2.2.2]; exact HA.out.1 s (by omega)
        clear ho2 hg2 ha2
        go_roundw
        case rel => exact ⟨j + 1, q + 1, A2, c2, _, by omega, by omega, by go_num, rfl, HL2, HA2⟩
        case measure => simp [intOf]; omega
      · go_wp2
        go_roundw
        case rel => exact ⟨j + 1, q, A', cap', M', by omega, by omega, by go_num, rfl, HL.out.alloc _, HA⟩
        case measure => simp [intOf]; omega
    · obtain rfl : j = m := by omega
      obtain ⟨N, hN⟩ : ∃ N : Nat, N ≤ 6 ∧ ((0 < N ∨ n ≤ 0) ∧ (N : Int) ≤ max n 0 ∧ (n ≤ N ∨ N = 6)) := by
        by_cases h0 : n ≤ 0
        · exact ⟨0, by omega, by omega, by omega, by omega⟩
        · by_cases h6 : n ≤ 6
          · exact ⟨n.toNat, by omega, by omega, by omega, by omega⟩
          · exact ⟨6, by omega, by omega, by omega, by omega⟩
      obtain ⟨hN6, hN0, hN1, hN2⟩ := hN
      go_wp2
      go_loopw [5, 8] (fun l i wr => ∃ t A' cap' M', t ≤ N ∧ i = .int .i64 (t : Nat) ∧ l = .slice A' (q + t) cap' ∧ Hid (GL w wr A' (q + t) cap' M') ∧ Hid (Ask M' q t)) (fun _ i _ => N - (intOf i).toNat)
      case atStart => exact ⟨0, A', cap', M', by omega, rfl, rfl, HL, HA⟩
      case round =>
        clear HL HA
        obtain ⟨t, A1, cap1, M1, ht, rfl, rfl, HL, HA⟩ := hrel
        have hz := HL.out.bel.size
        by_cases htN : t < N
        · have ht1 : (t : Int) < n := by omega
          have ht6 : t < 6 := by omega
          go_wp2_with (at_builtin; refine wpList_apMv rfl (.tmp 39) (.tmp 42) rfl w.heap.size rfl wr.heap.size _ _ _ _ rfl rfl HL.out.own rfl (by omega) (by omega) ?_; intro A2 c2 w2 ho2 hg2 ha2)
          have HL2 := Lib.hid (HL.out.app hg2 ho2)
          have HA2 := Lib.hid (HA.out.push 0)
          clear ho2 hg2 ha2
          go_roundw
          case rel => exact ⟨t + 1, A2, c2, _, by omega, by go_num, rfl, HL2, HA2⟩
          case measure => simp [intOf]; omega
        · obtain rfl : t = N := by omega
          rcases (by omega : n ≤ (t : Int) ∨ ((t : Int) < n ∧ 6 ≤ t)) with hcase | ⟨hcase, hc6⟩
          all_goals
            go_wp2_with (at_builtin; refine wpList_apMv rfl (.tmp 44) (.tmp 46) rfl w.heap.size rfl wr.heap.size _ _ _ _ rfl rfl HL.out.own rfl (by omega) (by omega) ?_; intro A2 c2 w2 ho2 hg2 ha2)
            have HL2 := Lib.hid (HL.out.app hg2 ho2)
            have HA2 := Lib.hid (HA.out.off 0 0)
            clear ho2 hg2 ha2 HL HA
            go_loopw [5, 9] (fun l i wr => ∃ u A' cap' M', u ≤ t ∧ i = .int .i64 (u : Nat) ∧ l = .slice A' (q + t + 1 + u) cap' ∧ Hid (GL w wr A' (q + t + 1 + u) cap' M') ∧ Hid (Tak M' q t u)) (fun _ i _ => t - (intOf i).toNat)
            case atStart => exact ⟨0, A2, c2, _, by omega, rfl, rfl, HL2, HA2⟩
            case round =>
              clear HL2 HA2
              obtain ⟨u, A3, cap3, M3, hu, rfl, rfl, HL, HA⟩ := hrel
              have hz := HL.out.bel.size
              by_cases hut : u < t
              · have hu1 : (u : Int) < n := by omega
                have hu6 : u < 6 := by omega
                go_wp2_with (at_builtin; refine wpList_apMv rfl (.tmp 57) (.tmp 60) rfl w.heap.size rfl wr.heap.size _ _ _ _ rfl rfl HL.out.own rfl (by omega) (by omega) ?_; intro A2 c2 w2 ho2 hg2 ha2)
                have HL2 := Lib.hid (HL.out.app hg2 ho2)
                have HA2 := Lib.hid (HA.out.push 0)
                clear ho2 hg2 ha2
                go_roundw
                case rel => exact ⟨u + 1, A2, c2, _, by omega, by go_num, rfl, HL2, HA2⟩
                case measure => simp [intOf]; omega
              · obtain rfl : u = t := by omega
                by_cases hpl : playedB n ((q + u + 1 + u : Nat) : Int) = true
                · obtain ⟨p1, p6, p60⟩ := playedB_iff.1 hpl
                  try (exfalso; omega)
                  all_goals
                    obtain rfl : n = (u : Int) := by omega
                    have HPL : Hid (playedB (u : Int) ((q : Int) + u + 1 + u) = true) := by
                      have h := hpl
                      push_cast at h
                      exact h
                    have hlaw := goes_law (n := u) (by omega) (by omega) HA.out.goes
                    have HLAW := Lib.hid hlaw.2
                    have hch := hlaw.1
                    clear hpl hlaw
                    go_wp2_with fail
                    refine (pax_good u (q + u + 1 + u) cap3 _ A3 M3 wr (by omega) (by omega) (by omega) (Nat.le_refl _) (HL.out.own.rd)).mono ?_
                    rintro e w1 ⟨v, rfl, gP, gT, gV, A4, c4, rfl, hp1⟩
                    have HP1 := Lib.hid hp1; clear hp1
                    go_wp2_with fail
                    refine at_world (F := fun W' => Calls _ _ _ W' _) (fun W => PL wr W u M3 (q + u + 1 + u) gP gT gV A4 c4 w1.heap.size) ⟨?_, heap_alloc_new w1 _⟩ ?_
                    · have hb := (Below.refl w1.heap.size w1).alloc (Nat.le_refl _) (.cells #[.slice A4 (q + u + 1 + u) c4, .int .i64 (pxE u M3 (q + u + 1 + u)).ch, .slice (some ⟨gP, 0, none⟩) u u, .slice (some ⟨gT, 0, none⟩) u u, .slice (some ⟨gV, 0, none⟩) u u] 26)
                      have h := HP1.out
                      exact ⟨h.oP.below hb (fun k hk => (h.oP.lt k hk).2), h.oT.below hb (fun k hk => (h.oT.lt k hk).2), h.oV.below hb (fun k hk => (h.oV.lt k hk).2), h.cod.below hb (fun k hk => (h.cod.lt k hk).2), h.bel.alloc h.bel.size _⟩
                    intro W hW
                    obtain ⟨b0, hb0⟩ : ∃ b0, w1.heap.size = b0 := ⟨_, rfl⟩
                    rw [hb0] at hW
                    rw [hb0]
                    have HW := Lib.hid hW
                    clear hW hb0 HP1
                    refine (bool_is (played_any u _ _) HPL.out).mono ?_
                    rintro e w3 ⟨rfl, rfl⟩
                    obtain ⟨c0, c1', c2, c3, c4'⟩ := HW.out.cells
                    obtain ⟨x, hx⟩ : ∃ x, (pxE u M3 (q + u + 1 + u)).ch = x := ⟨_, rfl⟩
                    have HX := Lib.hid hx
                    rw [hx] at hch c1'
                    clear hx
                    go_wp2
                    clear c0 c1' c2 c3 c4'
                    go_loopw [12] (fun i wr2 => ∃ j : Nat, j ≤ u ∧ i = .int .i64 j ∧ Hid (PL wr wr2 u M3 (q + u + 1 + u) gP gT gV A4 c4 b0)) (fun i _ => u - (intOf i).toNat)
                    case atStart => exact ⟨0, by omega, rfl, HW⟩
                    case round =>
                      obtain ⟨j, hj, rfl, HQ⟩ := hrel
                      obtain ⟨s0, s1, s2, s3, s4⟩ := HQ.out.cells
                      rw [HX.out] at s1
                      by_cases hjn : j < u
                      · have hjn' : (j : Int) < (u : Int) := by omega
                        have p3 := own_cell1 HQ.out.pf.oV hjn
                        have hvv := HLAW.out j hjn
                        obtain ⟨V, hV⟩ : ∃ V, (pxE u M3 (q + u + 1 + u)).V j = V := ⟨_, rfl⟩
                        rw [hV] at hvv p3
                        have hv : ((V : Int) != x) = false := later_ne hvv HX.out
                        clear hV hvv
                        go_wp2
                        refine wp_text_all (by kernel_rfl) (by kernel_rfl) (by kernel_rfl) (by repeat' (first | (with_reducible apply tame_then) | (with_reducible apply tame_block) | (with_reducible apply tame_scope) | exact tame_gives | exact tame_body (fun _ _ h => ⟨_, h.1⟩))) ?_
                        go_wp2
                        refine headed ?_
                        go_wp2
                        go_roundw
                        case rel => exact ⟨j + 1, by omega, by go_num, HQ.out.sim ⟨rfl, rfl, rfl, rfl⟩⟩
                        case measure => simp [intOf]; omega
                      · obtain rfl : j = u := by omega
                        go_wp2
                        go_ret
                        exact ⟨rfl, HL.out.bel.trans (HQ.out.pf.bel.mono HL.out.bel.size)⟩
                · have hb' : ¬ (1 ≤ n ∧ n ≤ 6 ∧ ((q + u + 1 + u : Nat) : Int) ≤ 60) := fun h => hpl (playedB_iff.2 h)
                  have HN := Lib.hid hb'
                  have HPL : Hid (playedB n ((q : Int) + u + 1 + u) = false) := by
                    have h : playedB n ((q + u + 1 + u : Nat) : Int) = false := by simpa using hpl
                    push_cast at h
                    exact h
                  clear hb' hpl
                  go_wp2_with fail
                  refine (pax_bad n (q + u + 1 + u) cap3 A3 wr (by unfold maxLen; omega) HN.out).mono ?_
                  rintro e w1 ⟨rfl, hb1⟩
                  have HB1 := Lib.hid (HL.out.bel.trans (hb1.mono HL.out.bel.size)); clear hb1
                  go_wp2_with (go_at_call 7; refine (bool_is (played_any n _ _) HPL.out).mono ?_; rintro e w3 ⟨rfl, rfl⟩)
                  go_ret
                  exact ⟨rfl, HB1.out.alloc HB1.out.size _⟩
set_option maxHeartbeats 400000 in
theorem paxosGoes_long (n : Int) (m cap : Nat) (A : Option Addr) (w : World) (hm : 40 < m) (hx : m ≤ maxLen) :
    Calls Try.prog 5 #[.int .i64 n, .slice A m cap] w fun e w' => e = .returned (.bool true) ∧ Below w.heap.size w w' := by
  unfold maxLen at hx
  go_enter Try.func5, Try.ntmps5
  go_wp2
  go_ret
  exact ⟨rfl, Below.refl _ _⟩
theorem paxosGoes_all (n : Int) (A : Option Addr) (m cap : Nat) (M : Mv) (w : World) (_ : (Lit.int .i64 n).wf = true) (hmc : m ≤ cap ∧ cap * 32 ≤ 140737488351232) (hr : Rd w w.heap.size A (m * 4) (mvF M)) :
    Calls Try.prog 5 #[.int .i64 n, .slice A m cap] w fun e w' => e = .returned (.bool true) ∧ Below w.heap.size w w' := by
  by_cases hm : m ≤ 40
  · exact paxosGoes_go n m cap A M w hr hm
  · exact paxosGoes_long n m cap A w (by omega) (by unfold maxLen; omega)
end Go.Proofs.Ytpicmphimcgklaa
