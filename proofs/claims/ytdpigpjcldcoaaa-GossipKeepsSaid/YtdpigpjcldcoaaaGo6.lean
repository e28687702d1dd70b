/- The walks of slices.Compare at []int, of cmp.Or at two numbers and of Play's closure. -/
import Derived.Test.YtdpigpjcldcoaaaGoOrd
import Derived.Test.YtdpigpjcldcoaaaGo1
import Derived.Test.YtdpigpjcldcoaaaHeld
import Derived.Test.YtdpigpjcldcoaaaRec2
set_option linter.unusedVariables false
set_option linter.unusedSimpArgs false
namespace Go.Proofs.Ytdpigpjcldcoaaa
open Go.RowKit Go.Lib Go.Sort

set_option maxHeartbeats 800000 in
theorem compare_any (n c1 c2 B : Nat) (A1 A2 : Option Addr) (a b : Nat → Nat) (w : World) (hn : n ≤ 1000) (hr : Rd w B A1 n (fun t => .int .i64 (a t : Nat))) (hr2 : Rd w B A2 n (fun t => .int .i64 (b t : Nat))) :
    Calls Try.prog 21 #[.slice A1 n c1, .slice A2 n c2] w fun e w' => e = .returned (.int .i64 (lexF a b n 0)) ∧ w' = w := by
  have HR := Lib.hid hr; clear hr
  have HR2 := Lib.hid hr2; clear hr2
  go_enter Try.func21, Try.ntmps21
  go_wp2
  go_loop [11] (fun i => ∃ k : Nat, k ≤ n ∧ i = .int .i64 (k : Nat) ∧ Hid (lexF a b n 0 = lexF a b (n - k) k)) (fun i => n - (intOf i).toNat)
  case atStart => exact ⟨0, by omega, rfl, Lib.hid rfl⟩
  case round =>
    obtain ⟨k, hk, rfl, HA⟩ := hrel
    by_cases hlt : k < n
    · obtain ⟨ad, rfl, -, hc⟩ := HR.out (by omega)
      obtain ⟨ad2, rfl, -, hc2⟩ := HR2.out (by omega)
      have e0 : w.cell? (ad.add k) = some (.int .i64 (a k : Nat)) := hc k hlt
      have e1 : w.cell? (ad2.add k) = some (.int .i64 (b k : Nat)) := hc2 k hlt
      have HS : Hid (lexF a b (n - k) k = if compareInt (a k : Nat) (b k : Nat) ≠ 0 then compareInt (a k : Nat) (b k : Nat) else lexF a b (n - (k + 1)) (k + 1)) := Lib.hid (by
        obtain ⟨d, hd⟩ : ∃ d, n - k = d + 1 := ⟨n - k - 1, by omega⟩
        rw [hd, show n - (k + 1) = d by omega]; rfl)
      clear hc hc2
      generalize hx : ((a k : Nat) : Int) = x at e0 HS
      generalize hy : ((b k : Nat) : Int) = y at e1 HS
      clear hx hy
      by_cases hc : compareInt x y = 0
      · have HN : Hid (lexF a b n 0 = lexF a b (n - (k + 1)) (k + 1)) := Lib.hid (by rw [HA.out, HS.out, if_neg (by simpa using hc)])
        go_wp2_with (first | (go_at_call 20; refine (Try.cmp_Compare_int _ _ _).mono ?_; rintro e w3 ⟨rfl, rfl⟩; rw [hc]) | fail)
        go_round
        case rel => exact ⟨k + 1, by omega, by go_num, HN⟩
        case measure => simp [intOf]; omega
      · have HN : Hid (lexF a b n 0 = compareInt x y) := Lib.hid (by rw [HA.out, HS.out, if_pos hc])
        have hcb : (compareInt x y == 0) = false := by simpa using hc
        have hcb2 : (compareInt x y != 0) = true := by simpa using hc
        clear HS
        go_wp2_with (first | (go_at_call 20; refine (Try.cmp_Compare_int _ _ _).mono ?_; rintro e w3 ⟨rfl, rfl⟩; generalize compareInt x y = c at hc HN hcb hcb2 ⊢) | fail)
        go_ret
        exact ⟨by rw [HN.out]; rfl, rfl⟩
    · obtain rfl : n = k := by omega
      have HF : Hid (lexF a b n 0 = 0) := Lib.hid (by rw [HA.out, Nat.sub_self]; rfl)
      go_wp2
      go_ret
      exact ⟨by rw [HF.out]; rfl, rfl⟩
set_option maxHeartbeats 800000 in
theorem or2_any (x y : Int) (g : Nat) (w : World) (h0 : w.cell? ⟨g, 0, none⟩ = some (.int .i64 x)) (h1 : w.cell? ⟨g, 1, none⟩ = some (.int .i64 y)) :
    Calls Try.prog 19 #[.slice (some ⟨g, 0, none⟩) 2 2] w fun e w' => e = .returned (.int .i64 (if x ≠ 0 then x else y)) ∧ w' = w := by
  by_cases hx : x = 0
  · subst hx
    have hxb : ((0 : Int) == 0) = true := rfl
    by_cases hy : y = 0
    · subst hy
      go_enter Try.func19, Try.ntmps19
      go_wp2
      go_loop [8] (fun i => ∃ k : Nat, k ≤ 2 ∧ i = .int .i64 (k : Nat)) (fun i => 2 - (intOf i).toNat)
      case atStart => exact ⟨0, by omega, rfl⟩
      case round =>
        obtain ⟨k, hk, rfl⟩ := hrel
        rcases (by omega : k = 0 ∨ k = 1 ∨ k = 2) with rfl | rfl | rfl
        · go_wp2
          go_round
          case rel => exact ⟨1, by omega, by go_num⟩
          case measure => simp [intOf]
        · go_wp2
          go_round
          case rel => exact ⟨2, by omega, by go_num⟩
          case measure => simp [intOf]
        · go_wp2
          go_ret
          exact ⟨rfl, rfl⟩
    · have hyb : (y == 0) = false := by simpa using hy
      go_enter Try.func19, Try.ntmps19
      go_wp2
      go_loop [8] (fun i => ∃ k : Nat, k ≤ 1 ∧ i = .int .i64 (k : Nat)) (fun i => 2 - (intOf i).toNat)
      case atStart => exact ⟨0, by omega, rfl⟩
      case round =>
        obtain ⟨k, hk, rfl⟩ := hrel
        rcases (by omega : k = 0 ∨ k = 1) with rfl | rfl
        · go_wp2
          go_round
          case rel => exact ⟨1, by omega, by go_num⟩
          case measure => simp [intOf]
        · go_wp2
          go_ret
          exact ⟨by simp, rfl⟩
  · have hxb : (x == 0) = false := by simpa using hx
    go_enter Try.func19, Try.ntmps19
    go_wp2
    go_loop [8] (fun i => i = .int .i64 0) (fun i => 2 - (intOf i).toNat)
    case atStart => rfl
    case round =>
      obtain rfl := hrel
      go_wp2
      go_ret
      exact ⟨by simp [hx], rfl⟩
set_option maxRecDepth 100000 in
set_option maxHeartbeats 1600000 in
theorem closure_any (n ga ca gb cb B : Nat) (x y : Kn) (w : World) (hn : n ≤ 1000) (hB : B ≤ w.heap.size) (hra : Rd w B (some ⟨ga, 0, none⟩) n (fun t => .int .i64 (x.vec t : Nat))) (hrb : Rd w B (some ⟨gb, 0, none⟩) n (fun t => .int .i64 (y.vec t : Nat))) :
    Calls Try.prog 18 #[.agg #[.int .i64 x.val, .slice (some ⟨ga, 0, none⟩) n ca], .agg #[.int .i64 y.val, .slice (some ⟨gb, 0, none⟩) n cb]] w fun e w' => e = .returned (.int .i64 (cmpK n x y)) ∧ ∃ q os', w' = grow (w.drewN q) os' := by
  have HC : Hid (cmpK n x y = if compareInt x.val y.val ≠ 0 then compareInt x.val y.val else lexF x.vec y.vec n 0) := Lib.hid rfl
  have HRA := Lib.hid hra; clear hra
  have HRB := Lib.hid hrb; clear hrb
  have hcmp := fun (W : World) (h : Rd W B (some ⟨ga, 0, none⟩) n (fun t => .int .i64 (x.vec t : Nat))) (h' : Rd W B (some ⟨gb, 0, none⟩) n (fun t => .int .i64 (y.vec t : Nat))) => compare_any n ca cb B _ _ x.vec y.vec W hn h h'
  generalize lexF x.vec y.vec n 0 = c2 at hcmp HC
  have HCM := Lib.hid hcmp
  clear hcmp
  obtain ⟨u, hu⟩ : ∃ u, u = x.val := ⟨_, rfl⟩
  obtain ⟨v, hv⟩ : ∃ v, v = y.val := ⟨_, rfl⟩
  rw [← hu, ← hv] at HC ⊢
  clear hu hv
  obtain ⟨W0, hW0⟩ : ∃ W0, W0 = ((w.alloc (.cells #[.int .i64 u, .slice (some ⟨ga, 0, none⟩) n ca] 38)).alloc (.cells #[.int .i64 v, .slice (some ⟨gb, 0, none⟩) n cb] 38)) := ⟨_, rfl⟩
  have p1 := alloc2 w (.int .i64 u) (.slice (some ⟨ga, 0, none⟩) n ca) 38
  have p2 := alloc2 (w.alloc (.cells #[.int .i64 u, .slice (some ⟨ga, 0, none⟩) n ca] 38)) (.int .i64 v) (.slice (some ⟨gb, 0, none⟩) n cb) 38
  have HW : Hid ((∃ os, W0 = grow w os) ∧ ((W0.cell? ⟨w.heap.size, 0, none⟩ = some (.int .i64 u) ∧ W0.cell? ⟨w.heap.size, 1, none⟩ = some (.slice (some ⟨ga, 0, none⟩) n ca)) ∧ W0.cell? ⟨w.heap.size + 1, 0, none⟩ = some (.int .i64 v) ∧ W0.cell? ⟨w.heap.size + 1, 1, none⟩ = some (.slice (some ⟨gb, 0, none⟩) n cb)) ∧ Rd W0 B (some ⟨ga, 0, none⟩) n (fun t => .int .i64 (x.vec t : Nat)) ∧ Rd W0 B (some ⟨gb, 0, none⟩) n (fun t => .int .i64 (y.vec t : Nat))) := Lib.hid (by
    rw [hW0]
    refine ⟨⟨_, by rw [alloc_eq_grow, alloc_eq_grow, grow_grow]⟩, ⟨⟨?_, ?_⟩, ?_, ?_⟩, (HRA.out.alloc hB _).alloc (by simp; omega) _, (HRB.out.alloc hB _).alloc (by simp; omega) _⟩
    · exact (World.cell?_alloc_lt _ _ _ (by simp)).trans p1.1
    · exact (World.cell?_alloc_lt _ _ _ (by simp)).trans p1.2
    · have := p2.1; rwa [World.size_alloc] at this
    · have := p2.2; rwa [World.size_alloc] at this)
  clear p1 p2
  go_enter Try.func18, Try.ntmps18
  go_wp2
  rw [← hW0]
  clear hW0
  generalize w.heap.size + 1 = qb at HW ⊢
  generalize w.heap.size = qa at HW ⊢
  obtain ⟨⟨os0, hos⟩, ⟨⟨h0, h1⟩, h2, h3⟩, r1, r2⟩ := HW.out
  have HR1 := Lib.hid r1
  have HR2 := Lib.hid r2
  have HOS := Lib.hid hos
  have hq1 := World.block_lt_of_cell? W0 _ h0
  have hq2 := World.block_lt_of_cell? W0 _ h2
  clear r1 r2 hos HW
  refine wp_held_mask (fun W => (W.cell? ⟨qa, 0, none⟩ = some (.int .i64 u) ∧ W.cell? ⟨qa, 1, none⟩ = some (.slice (some ⟨ga, 0, none⟩) n ca)) ∧ W.cell? ⟨qb, 0, none⟩ = some (.int .i64 v) ∧ W.cell? ⟨qb, 1, none⟩ = some (.slice (some ⟨gb, 0, none⟩) n cb))
    [true, true, true, true, false, true, true, true, true, false, false, false, false] ?A1 (by kernel_rfl) rfl (by kernel_rfl) (by repeat' (first | (with_reducible apply tame_then) | (with_reducible apply tame_block) | (with_reducible apply tame_scope) | exact tame_gives | exact tame_body (fun _ _ h => ⟨_, h.1⟩))) ⟨⟨h0, h1⟩, h2, h3⟩ ?head ?tail
  case head =>
    intro W5 ⟨⟨s0, s1⟩, s2, s3⟩
    simp only [pick]
    go_wp2
    exact taken
  case tail =>
    simp only [pick, List.map_cons, List.map_nil, Bool.not_true, Bool.not_false]
    refine tail_step ?_
    go_wp2_with (first | (go_at_call 20; refine (Try.cmp_Compare_int _ _ _).mono ?_; rintro e w3 ⟨rfl, rfl⟩; generalize compareInt u v = c1 at HC ⊢) | fail)
    refine holds ⟨⟨h0, h1⟩, h2, h3⟩ ?_
    refine tail_step ?_
    go_wp2_with (first | (go_at_call 21; refine (HCM.out W0.drew (HR1.out.drewN 1) (HR2.out.drewN 1)).mono ?_; rintro e w3 ⟨rfl, rfl⟩) | fail)
    refine holds ⟨⟨h0, h1⟩, h2, h3⟩ ?_
    refine tail_step ?_
    have ha2 := alloc2 W0.drew (.int .i64 c1) (.int .i64 c2) 3
    have HS : Hid (((W0.drew.alloc (.cells #[.int .i64 c1, .int .i64 c2] 3)).cell? ⟨qa, 0, none⟩ = some (.int .i64 u) ∧ (W0.drew.alloc (.cells #[.int .i64 c1, .int .i64 c2] 3)).cell? ⟨qa, 1, none⟩ = some (.slice (some ⟨ga, 0, none⟩) n ca)) ∧ (W0.drew.alloc (.cells #[.int .i64 c1, .int .i64 c2] 3)).cell? ⟨qb, 0, none⟩ = some (.int .i64 v) ∧ (W0.drew.alloc (.cells #[.int .i64 c1, .int .i64 c2] 3)).cell? ⟨qb, 1, none⟩ = some (.slice (some ⟨gb, 0, none⟩) n cb)) :=
      Lib.hid ⟨⟨(World.cell?_alloc_lt W0.drew _ _ hq1).trans h0, (World.cell?_alloc_lt W0.drew _ _ hq1).trans h1⟩, (World.cell?_alloc_lt W0.drew _ _ hq2).trans h2, (World.cell?_alloc_lt W0.drew _ _ hq2).trans h3⟩
    go_wp2
    refine holds HS.out ?_
    refine tail_step ?_
    go_wp2_with (first | (go_at_call 19; refine (or2_any c1 c2 _ _ ha2.1 ha2.2).mono ?_; rintro e w3 ⟨rfl, rfl⟩; generalize (if c1 ≠ 0 then c1 else c2) = z at HC ⊢) | fail)
    refine holds HS.out ?_
    refine tail_last ?_
    go_wp2
    go_ret
    exact ⟨congrArg (fun z : Int => Ending.returned (.int .i64 z)) HC.out.symm, 1, os0 ++ #[.cells #[.int .i64 c1, .int .i64 c2] 3], by rw [alloc_eq_grow, HOS.out, ← grow_grow]; rfl⟩
end Go.Proofs.Ytdpigpjcldcoaaa
