/- The law SuspectFew, walked. -/
import Derived.Test.YtcipdjdbafngkaaSusWalk
import Derived.Test.YtcipdjdbafngkaaSusLaw
import Derived.Test.YtcipdjdbafngkaaInside
import Derived.Test.YtcipdjdbafngkaaPlayed
set_option linter.unusedVariables false
set_option linter.unusedSimpArgs false
namespace Go.Proofs.Ytcipdjdbafngkaa
open Go.RowKit

/-- Between the rounds of a law: what Play gave, and its struct in block b. -/
structure SuO (w wr : World) (n m : Nat) (s : SS) (gw : Nat) (A : Option Addr) (cap : Nat) (fc : Nat → Int) (b : Nat) : Prop where
  f : SuF w wr n m s gw A cap fc
  row : wr.heap[b]? = some (.cells #[.slice A m cap, .int .u32 (s.set : Nat), .int .i64 (s.wrong : Nat), .slice (some ⟨gw, 0, none⟩) n n] 41 (0, 0))
section
variable {w wr wr' : World} {n m : Nat} {s : SS} {gw : Nat} {A : Option Addr} {cap : Nat} {fc : Nat → Int} {b : Nat}
theorem SuO.lt (h : SuO w wr n m s gw A cap fc b) : b < wr.heap.size := by
  have := h.row
  exact (Array.getElem?_eq_some_iff.1 this).1
theorem SuO.keep (h : SuO w wr n m s gw A cap fc b) (hb : Below wr.heap.size wr wr') : SuO w wr' n m s gw A cap fc b :=
  ⟨⟨h.f.ow.below hb (fun k hk => (h.f.ow.lt k hk).2), h.f.cod.below hb (fun k hk => (h.f.cod.lt k hk).2), h.f.bel.trans (hb.mono h.f.bel.size)⟩, (hb.block _ h.lt).trans h.row⟩
theorem SuO.sim (h : SuO w wr n m s gw A cap fc b) (e : Sim wr wr') : SuO w wr' n m s gw A cap fc b := h.keep (below_sim (Below.refl _ _) e)
theorem SuO.alloc (h : SuO w wr n m s gw A cap fc b) (o : Obj) : SuO w (wr.alloc o) n m s gw A cap fc b := h.keep ((Below.refl _ _).alloc (Nat.le_refl _) o)
theorem SuO.cells (h : SuO w wr n m s gw A cap fc b) : wr.cell? ⟨b, 0, none⟩ = some (.slice A m cap) ∧ wr.cell? ⟨b, 1, none⟩ = some (.int .u32 (s.set : Nat)) ∧ wr.cell? ⟨b, 2, none⟩ = some (.int .i64 (s.wrong : Nat)) ∧ wr.cell? ⟨b, 3, none⟩ = some (.slice (some ⟨gw, 0, none⟩) n n) := by
  refine ⟨?_, ?_, ?_, ?_⟩ <;> (rw [cell_of_row _ _ _ _ _ _ h.row]; rfl)
theorem SuO.made (h : SuF w wr n m s gw A cap fc) : SuO w (wr.alloc (.cells #[.slice A m cap, .int .u32 (s.set : Nat), .int .i64 (s.wrong : Nat), .slice (some ⟨gw, 0, none⟩) n n] 41)) n m s gw A cap fc wr.heap.size :=
  ⟨⟨h.ow.alloc _, h.cod.alloc _, h.bel.alloc h.bel.size _⟩, heap_alloc_new wr _⟩
end
set_option maxHeartbeats 800000 in
theorem sus_bad (n : Int) (m cap : Nat) (A : Option Addr) (w : World) (hm : m ≤ maxLen) (hb : ¬ (1 ≤ n ∧ n ≤ 6 ∧ (m : Int) ≤ 60)) :
    Calls Try.prog 12 #[.int .i64 n, .slice A m cap] w fun e w' => e = .returned (.tuple #[.agg #[.slice none 0 0, .int .u32 0, .int .i64 0, .slice none 0 0], .int .i64 1]) ∧ Below w.heap.size w w' := by
  unfold maxLen at hm
  have h' : n < 1 ∨ 6 < n ∨ 60 < m := by omega
  clear hb
  go_enter Try.func12, Try.ntmps12
  go_wp2
  all_goals first | ((try simp only [Exit.inBlock, Exit.then]); refine bodyPost_ret (v := .tuple #[.agg #[.slice none 0 0, .int .u32 0, .int .i64 0, .slice none 0 0], .int .i64 1]) (by simp [results, Try.results12, go_sem]) rfl ?_; exact ⟨rfl, ((((((Below.refl _ _).alloc (Nat.le_refl _) _).setCell (by simp) _).setCell (by simp) _).setCell (by simp) _).setCell (by simp) _)⟩) | ((try simp only [Exit.inBlock, Exit.then]); refine bodyPost_ret (v := .tuple #[.agg #[.slice none 0 0, .int .u32 0, .int .i64 0, .slice none 0 0], .int .i64 1]) (by simp [results, Try.results12, go_sem]) rfl ?_; exact ⟨rfl, (Below.refl _ _).alloc (Nat.le_refl _) _⟩) | (exfalso; omega)

set_option maxRecDepth 100000 in
set_option maxHeartbeats 3200000 in
theorem suspectFew_good (n m cap : Nat) (A : Option Addr) (M : Mv) (i : Int) (w : World) (hr : Rd w w.heap.size A (m * 4) (mvF M)) (hb : playedB n m = true) :
    Calls Try.prog 7 #[.int .i64 n, .slice A m cap, .int .i64 i] w fun e w' => e = .returned (.bool true) ∧ Below w.heap.size w w' := by
  obtain ⟨h1, h6, hm6⟩ := playedB_iff.1 hb
  have HR := Lib.hid hr; clear hr
  have HB := Lib.hid hb; clear hb
  have HI := Lib.hid (SI.all (n := n) (by omega) M m)
  have HSW := Lib.hid (sum_wrong n M m)
  go_enter Try.func7, Try.ntmps7
  go_wp2_with fail
  refine (sus_good n m cap _ A M w (by omega) (by omega) (by omega) (Nat.le_refl _) HR.out).mono ?_
  rintro e w1 ⟨v, rfl, gw, A1, c1, rfl, hp1⟩
  have HP1 := Lib.hid hp1; clear hp1
  go_wp2_with fail
  refine at_world (F := fun W' => Calls _ _ _ W' _) (fun W => SuO w W n m (suE n M m) gw A1 c1 (suC n M) w1.heap.size) (SuO.made HP1.out) ?_
  intro W hW
  obtain ⟨b, hb0⟩ : ∃ b, w1.heap.size = b := ⟨_, rfl⟩
  rw [hb0] at hW
  rw [hb0]
  have HW := Lib.hid hW
  clear hW hb0 HP1
  refine (bool_is (played_any n m _) HB.out).mono ?_
  rintro e w3 ⟨rfl, rfl⟩
  obtain ⟨s0, s1, s2, s3⟩ := HW.out.cells
  go_wp2
  clear s0 s1
  go_loop [9, 49] (fun x i => ∃ k : Nat, k ≤ n ∧ i = .int .i64 k ∧ x = .int .i64 (sumW (suE n M m).waits k)) (fun _ i => n - (intOf i).toNat)
  case atStart => exact ⟨0, by omega, rfl, rfl⟩
  case round =>
    obtain ⟨k, hk, rfl, rfl⟩ := hrel
    have habs := sumW_abs (f := (suE n M m).waits) (b := 61) (fun i => by have := HI.out.waits i; omega) k
    have habs2 : sumW (suE n M m).waits k ≤ 366 := by have h : ((k : Nat) : Int) * ((61 : Nat) : Int) ≤ 366 := by push_cast; omega
                                                      omega
    by_cases hlt : k < n
    · have r1 := own_cell1 HW.out.f.ow hlt
      have hwk := HI.out.waits k
      have HN := Lib.hid (show sumW (suE n M m).waits (k + 1) = sumW (suE n M m).waits k + ((suE n M m).waits k : Int) - 1 from rfl)
      obtain ⟨x, hx⟩ : ∃ x, (suE n M m).waits k = x := ⟨_, rfl⟩
      obtain ⟨y, hy⟩ : ∃ y, sumW (suE n M m).waits k = y := ⟨_, rfl⟩
      obtain ⟨ha0, _⟩ := habs
      rw [hx] at r1 hwk HN
      rw [hy] at HN ha0 habs2 ⊢
      clear hx hy
      go_wp2
      go_round
      case rel => exact ⟨k + 1, by omega, by go_num, by rw [HN.out]⟩
      case measure => simp [intOf]; omega
    · obtain rfl : k = n := by omega
      rw [HSW.out]
      clear habs habs2
      obtain ⟨x, hx⟩ : ∃ x, (suE k M m).wrong = x := ⟨_, rfl⟩
      rw [hx] at s2
      rw [hx]
      clear hx
      obtain ⟨bi, hbi⟩ : ∃ bi, (decide (0 ≤ i) && decide (i < (k : Int))) = bi := ⟨_, rfl⟩
      have HBI := Lib.hid hbi
      clear hbi
      have hbz := HW.out.lt
      cases bi
      · go_wp2_with (go_at_call 13; refine (inside1 false k i _ _ _ rfl HBI.out).mono ?_; rintro e w4 ⟨rfl, rfl⟩)
        go_ret
        exact ⟨ret_bool (by simp), (HW.out.alloc _).f.bel⟩
      · have hii : 0 ≤ i ∧ i < k := by simpa using HBI.out
        obtain ⟨q, rfl⟩ := Int.eq_ofNat_of_zero_le hii.1
        have hqk : q < k := by omega
        have HG := Lib.hid (gap_inv (n := k) (by omega) M hqk m).2
        clear hii
        go_wp2_with (go_at_call 13; refine (inside1 true k q _ _ _ rfl HBI.out).mono ?_; rintro e w4 ⟨rfl, rfl⟩)
        clear s2 s3
        go_loopw [12, 13, 77] (fun a s x wr => ∃ j : Nat, j ≤ m ∧ x = .int .i64 j ∧ a = .int .i64 ((gapTo M q j).1 : Nat) ∧ s = .int .i64 ((gapTo M q j).2 : Nat) ∧ Hid (SuO w wr k m (suE k M m) gw A1 c1 (suC k M) b)) (fun _ _ x _ => m - (intOf x).toNat)
        case atStart => exact ⟨0, by omega, rfl, rfl, rfl, HW.out.alloc _⟩
        case round =>
          obtain ⟨j, hj, rfl, rfl, rfl, HQ⟩ := hrel
          have hgl := gap_le M q j
          by_cases hlm : j < m
          · obtain ⟨ad, rfl, hbl, k0, k1, _⟩ := (HR.out.below HQ.out.f.bel).rec4 hlm
            clear hbl
            have HN := Lib.hid (show gapTo M q (j + 1) = if M.k j = 2 then ((gapTo M q j).1, (gapTo M q j).2 + 1) else if M.k j = 1 ∧ M.f j = q then (if (gapTo M q j).1 < (gapTo M q j).2 then (gapTo M q j).2 else (gapTo M q j).1, 0) else gapTo M q j from rfl)
            obtain ⟨⟨x, y⟩, hxy⟩ : ∃ p, gapTo M q j = p := ⟨_, rfl⟩
            rw [hxy] at HN hgl ⊢
            simp only [] at hgl ⊢
            clear hxy
            by_cases hk2 : M.k j = 2
            · have HN := Lib.hid (HN.out.trans (if_pos hk2))
              rw [hk2] at k0
              have e1 : ((2 : Int) == 1) = false := rfl
              have e2 : ((2 : Int) == 2) = true := rfl
              clear hk2
              go_wp2
              go_roundw
              case rel => exact ⟨j + 1, by omega, by go_num, by rw [HN.out], by rw [HN.out]; go_num, HQ.out.alloc _⟩
              case measure => simp [intOf]; omega
            · have HN1 := Lib.hid (HN.out.trans (if_neg hk2))
              have e1 : (M.k j == 2) = false := by simpa using hk2
              clear hk2 HN
              by_cases hki : M.k j = 1 ∧ M.f j = q
              · have HN := Lib.hid (HN1.out.trans (if_pos hki))
                have e2 : (M.k j == 1) = true := by simpa using hki.1
                have e3 : (M.f j == (q : Int)) = true := by simpa using hki.2
                clear hki HN1
                by_cases hlt2 : x < y
                · have HN2 := Lib.hid (HN.out.trans (by rw [if_pos hlt2]))
                  go_wp2
                  go_roundw
                  case rel => exact ⟨j + 1, by omega, by go_num, by rw [HN2.out], by rw [HN2.out]; rfl, HQ.out.alloc _⟩
                  case measure => simp [intOf]; omega
                · have HN2 := Lib.hid (HN.out.trans (by rw [if_neg hlt2]))
                  go_wp2
                  go_roundw
                  case rel => exact ⟨j + 1, by omega, by go_num, by rw [HN2.out], by rw [HN2.out]; rfl, HQ.out.alloc _⟩
                  case measure => simp [intOf]; omega
              · have HN := Lib.hid (HN1.out.trans (if_neg hki))
                have h2 : (M.k j == 1) = false ∨ (M.k j == 1) = true ∧ (M.f j == (q : Int)) = false := by
                  by_cases h : M.k j = 1
                  · exact .inr ⟨by simpa using h, by simpa using fun e => hki ⟨h, e⟩⟩
                  · exact .inl (by simpa using h)
                clear hki HN1
                rcases h2 with h2 | ⟨h2, h3⟩
                all_goals
                  go_wp2
                  go_roundw
                  case rel => exact ⟨j + 1, by omega, by go_num, by rw [HN.out], by rw [HN.out], HQ.out.alloc _⟩
                  case measure => simp [intOf]; omega
          · obtain rfl : j = m := by omega
            obtain ⟨s0, s1, s2, s3⟩ := HQ.out.cells
            have r1 := own_cell1 HQ.out.f.ow hqk
            have hwq := HI.out.waits q
            have hg := HG.out
            obtain ⟨x, hx⟩ : ∃ x, (gapTo M q j).1 = x := ⟨_, rfl⟩
            obtain ⟨y, hy⟩ : ∃ y, (suE k M j).waits q = y := ⟨_, rfl⟩
            rw [hx] at hg hgl
            rw [hx]
            rw [hy] at hg hwq r1
            clear hx hy
            have g1 : (y : Int) - 1 ≤ x := by omega
            have g2 : x < 1 ∨ y ≤ x := by omega
            clear hg
            rcases g2 with g2 | g2
            all_goals
              go_wp2
              go_ret
              exact ⟨rfl, HQ.out.f.bel⟩
set_option maxRecDepth 100000 in
set_option maxHeartbeats 1600000 in
theorem suspectFew_bad (n : Int) (m cap : Nat) (A : Option Addr) (i : Int) (w : World) (hm : m ≤ maxLen) (hb : playedB n m = false) :
    Calls Try.prog 7 #[.int .i64 n, .slice A m cap, .int .i64 i] w fun e w' => e = .returned (.bool true) ∧ Below w.heap.size w w' := by
  have hb' : ¬ (1 ≤ n ∧ n ≤ 6 ∧ (m : Int) ≤ 60) := fun h => by rw [playedB_iff.2 h] at hb; cases hb
  have HB := Lib.hid hb; clear hb
  have HN := Lib.hid hb'; clear hb'
  go_enter Try.func7, Try.ntmps7
  go_wp2_with fail
  refine (sus_bad n m cap A w hm HN.out).mono ?_
  rintro e w1 ⟨rfl, hb1⟩
  have HB1 := Lib.hid hb1; clear hb1
  go_wp2_with (go_at_call 14; refine (bool_is (played_any n m _) HB.out).mono ?_; rintro e w3 ⟨rfl, rfl⟩)
  go_ret
  exact ⟨rfl, HB1.out.alloc HB1.out.size _⟩
theorem suspectFew_all (n : Int) (A : Option Addr) (m cap : Nat) (M : Mv) (i : Int) (w : World) (_ : (Lit.int .i64 n).wf = true) (hmc : m ≤ cap ∧ cap ≤ maxLen) (hr : Rd w w.heap.size A (m * 4) (mvF M)) (_ : (Lit.int .i64 i).wf = true) :
    Calls Try.prog 7 #[.int .i64 n, .slice A m cap, .int .i64 i] w fun e w' => e = .returned (.bool true) ∧ Below w.heap.size w w' := by
  cases hb : playedB n m
  · exact suspectFew_bad n m cap A i w (by omega) hb
  · have h := playedB_iff.1 hb
    obtain ⟨k, rfl⟩ := Int.eq_ofNat_of_zero_le (by omega : 0 ≤ n)
    exact suspectFew_good k m cap A M i w hr hb
end Go.Proofs.Ytcipdjdbafngkaa
