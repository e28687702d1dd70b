/- The walks of cmp.Or at two numbers and of Order's closure. -/
import Derived.Test.YthonnpimfidkdaaOrdMath
import Derived.Test.YthonnpimfidkdaaHeld
import Derived.Test.YthonnpimfidkdaaRec2
import Derived.Test.YthonnpimfidkdaaAhead
set_option linter.unusedVariables false
set_option linter.unusedSimpArgs false
namespace Go.Proofs.Ythonnpimfidkdaa
open Go.RowKit Go.Lib Go.Sort

set_option maxHeartbeats 800000 in
theorem or2_any (x y : Int) (g : Nat) (w : World) (h0 : w.cell? ⟨g, 0, none⟩ = some (.int .i64 x)) (h1 : w.cell? ⟨g, 1, none⟩ = some (.int .i64 y)) :
    Calls Try.prog 14 #[.slice (some ⟨g, 0, none⟩) 2 2] w fun e w' => e = .returned (.int .i64 (if x ≠ 0 then x else y)) ∧ w' = w := by
  by_cases hx : x = 0
  · subst hx
    have hxb : ((0 : Int) == 0) = true := rfl
    by_cases hy : y = 0
    · subst hy
      go_enter Try.func14, Try.ntmps14
      go_wp2
      go_loop [8] (fun i => ∃ k : Nat, k ≤ 2 ∧ i = .int .i64 (k : Nat)) (fun i => 2 - (intOf i).toNat)
      case atStart => exact ⟨0, by omega, rfl⟩
      case round =>
        obtain ⟨k, hk, rfl⟩ := hrel
        rcases (by omega : k = 0 ∨ k = 1 ∨ k = 2) with rfl | rfl | rfl
        · go_wp2
          go_round
          case rel => exact ⟨1, by omega, by go_num⟩
          case measure => simp [intOf]
        · go_wp2
          go_round
          case rel => exact ⟨2, by omega, by go_num⟩
          case measure => simp [intOf]
        · go_wp2
          go_ret
          exact ⟨rfl, rfl⟩
    · have hyb : (y == 0) = false := by simpa using hy
      go_enter Try.func14, Try.ntmps14
      go_wp2
      go_loop [8] (fun i => ∃ k : Nat, k ≤ 1 ∧ i = .int .i64 (k : Nat)) (fun i => 2 - (intOf i).toNat)
      case atStart => exact ⟨0, by omega, rfl⟩
      case round =>
        obtain ⟨k, hk, rfl⟩ := hrel
        rcases (by omega : k = 0 ∨ k = 1) with rfl | rfl
        · go_wp2
          go_round
          case rel => exact ⟨1, by omega, by go_num⟩
          case measure => simp [intOf]
        · go_wp2
          go_ret
          exact ⟨by simp, rfl⟩
  · have hxb : (x == 0) = false := by simpa using hx
    go_enter Try.func14, Try.ntmps14
    go_wp2
    go_loop [8] (fun i => i = .int .i64 0) (fun i => 2 - (intOf i).toNat)
    case atStart => rfl
    case round =>
      obtain rfl := hrel
      go_wp2
      go_ret
      exact ⟨by simp [hx], rfl⟩
/-- What the closure reads. -/
structure OrdS (E : Ev) (len bt bl gt : Nat) (A : Option Addr) (cap : Nat) (w : World) : Prop where
  t : w.cell? ⟨bt, 0, none⟩ = some (.slice (some ⟨gt, 0, none⟩) len len)
  l : w.cell? ⟨bl, 0, none⟩ = some (.slice A len cap)
  tk : ∀ i, i < len → w.cell? ⟨gt, i, none⟩ = some (.int .i64 (tickT E i : Nat))
  ev : Rd w w.heap.size A (len * 3) (evF E)
set_option maxRecDepth 100000 in
set_option maxHeartbeats 1600000 in
theorem ordF_any (E : Ev) (len bt bl gt a b : Nat) (A : Option Addr) (cap : Nat) (w : World) (hl : len ≤ 30) (ha : a < len) (hb : b < len) (h : OrdS E len bt bl gt A cap w) :
    Calls Try.prog 13 #[.int .i64 (a : Nat), .int .i64 (b : Nat), .pointer (some ⟨bt, 0, none⟩), .pointer (some ⟨bl, 0, none⟩)] w fun e w' => e = .returned (.int .i64 (ordC E a b)) ∧ ∃ q os', w' = grow (w.drewN q) os' := by
  obtain ⟨h1, h2, h3, h4⟩ := h
  have ta := h3 a ha
  have tb := h3 b hb
  obtain ⟨ad, rfl, hbl, m0, -, -⟩ := h4.rec3 ha
  obtain ⟨ad2, he, -, n0, -, -⟩ := h4.rec3 hb
  obtain rfl : ad = ad2 := by injection he
  have hC : Hid (ordC E a b = if compareInt (tickT E a : Nat) (tickT E b : Nat) ≠ 0 then compareInt (tickT E a : Nat) (tickT E b : Nat) else compareInt (E.p a) (E.p b)) := rfl
  generalize tickT E a = x at *
  generalize tickT E b = y at *
  generalize E.p a = u at *
  generalize E.p b = v at *
  clear h3 h4 he
  go_enter Try.func13, Try.ntmps13
  go_wp2
  refine wp_held_mask (fun W => (W.cell? ⟨bt, 0, none⟩ = some (.slice (some ⟨gt, 0, none⟩) len len) ∧ W.cell? ⟨bl, 0, none⟩ = some (.slice (some ad) len cap)) ∧ (W.cell? ⟨gt, a, none⟩ = some (.int .i64 (x : Nat)) ∧ W.cell? ⟨gt, b, none⟩ = some (.int .i64 (y : Nat))) ∧ W.cell? (ad.add (a * 3)) = some (.int .i64 u) ∧ W.cell? (ad.add (b * 3)) = some (.int .i64 v))
    [true, true, true, true, true, true, true, true, false, true, true, true, true, true, true, true, true, true, true, false, false, false, false] ?A1 (by kernel_rfl) rfl (by kernel_rfl) (by repeat' (first | (with_reducible apply tame_then) | (with_reducible apply tame_block) | (with_reducible apply tame_scope) | exact tame_gives | exact tame_body (fun _ _ h => ⟨_, h.1⟩))) ⟨⟨h1, h2⟩, ⟨ta, tb⟩, m0, n0⟩ ?head ?tail
  case head =>
    intro W5 ⟨⟨s0, s1⟩, ⟨s2, s3⟩, s4, s5⟩
    simp only [pick]
    go_wp2
    exact taken
  case tail =>
    simp only [pick, List.map_cons, List.map_nil, Bool.not_true, Bool.not_false]
    refine tail_step ?_
    go_wp2_with (first | (go_at_call 15; refine (Try.cmp_Compare_int _ _ _).mono ?_; rintro e w3 ⟨rfl, rfl⟩; generalize compareInt ((x : Nat) : Int) ((y : Nat) : Int) = c1 at hC ⊢) | fail)
    refine holds ⟨⟨h1, h2⟩, ⟨ta, tb⟩, m0, n0⟩ ?_
    refine tail_step ?_
    go_wp2_with (first | (go_at_call 15; refine (Try.cmp_Compare_int _ _ _).mono ?_; rintro e w3 ⟨rfl, rfl⟩; generalize compareInt u v = c2 at hC ⊢) | fail)
    refine holds ⟨⟨h1, h2⟩, ⟨ta, tb⟩, m0, n0⟩ ?_
    refine tail_step ?_
    have hb1 := World.block_lt_of_cell? w _ h1
    have hb2 := World.block_lt_of_cell? w _ h2
    have hb3 := World.block_lt_of_cell? w _ ta
    have hb6 := World.block_lt_of_cell? w _ tb
    have hb4 := World.block_lt_of_cell? w _ m0
    have hb5 := World.block_lt_of_cell? w _ n0
    have ha2 := alloc2 w.drew (.int .i64 c1) (.int .i64 c2) 3
    have HS : Hid ((((w.drew.alloc (.cells #[.int .i64 c1, .int .i64 c2] 3)).cell? ⟨bt, 0, none⟩ = some (.slice (some ⟨gt, 0, none⟩) len len) ∧ (w.drew.alloc (.cells #[.int .i64 c1, .int .i64 c2] 3)).cell? ⟨bl, 0, none⟩ = some (.slice (some ad) len cap)) ∧ ((w.drew.alloc (.cells #[.int .i64 c1, .int .i64 c2] 3)).cell? ⟨gt, a, none⟩ = some (.int .i64 (x : Nat)) ∧ (w.drew.alloc (.cells #[.int .i64 c1, .int .i64 c2] 3)).cell? ⟨gt, b, none⟩ = some (.int .i64 (y : Nat))) ∧ (w.drew.alloc (.cells #[.int .i64 c1, .int .i64 c2] 3)).cell? (ad.add (a * 3)) = some (.int .i64 u) ∧ (w.drew.alloc (.cells #[.int .i64 c1, .int .i64 c2] 3)).cell? (ad.add (b * 3)) = some (.int .i64 v))) :=
      Lib.hid ⟨⟨(World.cell?_alloc_lt w.drew _ _ hb1).trans h1, (World.cell?_alloc_lt w.drew _ _ hb2).trans h2⟩, ⟨(World.cell?_alloc_lt w.drew _ _ hb3).trans ta, (World.cell?_alloc_lt w.drew _ _ hb6).trans tb⟩, (World.cell?_alloc_lt w.drew _ _ hb4).trans m0, (World.cell?_alloc_lt w.drew _ _ hb5).trans n0⟩
    go_wp2
    refine holds HS.out ?_
    refine tail_step ?_
    go_wp2_with (first | (go_at_call 14; refine (or2_any c1 c2 _ _ ha2.1 ha2.2).mono ?_; rintro e w3 ⟨rfl, rfl⟩; generalize (if c1 ≠ 0 then c1 else c2) = z at hC ⊢) | fail)
    refine holds HS.out ?_
    refine tail_last ?_
    go_wp2
    go_ret
    exact ⟨congrArg (fun z : Int => Ending.returned (.int .i64 z)) hC.out.symm, 1, #[.cells #[.int .i64 c1, .int .i64 c2] 3], by rw [alloc_eq_grow]; rfl⟩
end Go.Proofs.Ythonnpimfidkdaa
