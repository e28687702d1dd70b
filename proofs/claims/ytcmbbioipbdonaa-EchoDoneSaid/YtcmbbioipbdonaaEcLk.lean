/- The walks of the document's checks of links. -/
import Derived.Test.YtcmbbioipbdonaaRec2
import Derived.Test.YtcmbbioipbdonaaKept
import Derived.Test.YtcmbbioipbdonaaText
set_option linter.unusedVariables false
set_option linter.unusedSimpArgs false
namespace Go.Proofs.Ytcmbbioipbdonaa
open Go.RowKit

def Rg (n : Int) (p q : Nat → Int) (j : Nat) : Prop := 0 ≤ p j ∧ p j < n ∧ 0 ≤ q j ∧ q j < n ∧ p j ≠ q j
def Sm (p q : Nat → Int) (i j : Nat) : Prop := p i = p j ∧ q i = q j ∨ p i = q j ∧ q i = p j
/-- Size and places. -/
def FkRg (n : Int) (m : Nat) (p q : Nat → Int) : Prop := (1 ≤ n ∧ n ≤ 6 ∧ m ≤ 15) ∧ ∀ j, j < m → Rg n p q j
def FkTw (m : Nat) (p q : Nat → Int) : Prop := ∀ i, i < m → ∀ j, j < i → ¬ Sm p q i j
set_option maxHeartbeats 1000000 in
theorem lcheck_any (n : Int) (A : Option Addr) (m cap B : Nat) (p q : Nat → Int) (w : World) (hm : m ≤ maxLen) (hB : B ≤ w.heap.size) (hr : Rd w B A (m * 2) (recF2 p q)) :
    Calls Try.prog 17 #[.int .i64 n, .slice A m cap] w (Gives fun v w' => ∃ c : Int, v = .int .i64 c ∧ (c = 0 ↔ FkRg n m p q) ∧ Below w.heap.size w w') := by
  unfold maxLen at hm
  have HR := Lib.hid (hr.more hB); clear hr
  by_cases h1 : 1 ≤ n ∧ n ≤ 6 ∧ m ≤ 15
  · obtain ⟨h1, h6, h15⟩ := h1
    go_enter Try.func17, Try.ntmps17
    go_wp2
    go_loopw [20] (fun i wr => ∃ k : Nat, k ≤ m ∧ i = .int .i64 k ∧ Hid (Below w.heap.size w wr) ∧ Hid (∀ j, j < k → Rg n p q j)) (fun i _ => m - (intOf i).toNat)
    case atStart => exact ⟨0, by omega, rfl, Below.refl _ _, fun j hj => absurd hj (by omega)⟩
    case round =>
      obtain ⟨k, hk, rfl, HBr, HA⟩ := hrel
      have hz := HBr.out.size
      by_cases hlt : k < m
      · obtain ⟨ad, rfl, hbl, c0, c1⟩ := (HR.out.below HBr.out).rec2 hlt
        have HB1 : Hid (∀ o, Below w.heap.size w (wr.alloc o)) := fun o => HBr.out.alloc hz o
        have hbl2 : (ad.add (k * 2)).block < wr.heap.size := by rw [addr_block]; omega
        by_cases hg : Rg n p q k
        · obtain ⟨g1, g2, g3, g4, g5⟩ := hg
          have HG := Lib.hid g5
          have g6 : (p k == q k) = false := by simpa using g5
          clear g5
          go_wp2
          go_roundw
          case rel =>
            exact ⟨k + 1, by omega, by go_num, HB1.out _, fun i hi => (Nat.lt_succ_iff_lt_or_eq.1 hi).elim (HA.out i) (fun e => by subst e; exact ⟨g1, g2, g3, g4, HG.out⟩)⟩
          case measure => simp [intOf]; omega
        · have HN : Hid (¬ FkRg n m p q) := Lib.hid fun h => hg (h.2 k hlt)
          by_cases g1 : p k < 0
          · clear hg
            (go_wp2; go_ret; exact ⟨_, rfl, _, rfl, ⟨fun h => absurd h (by decide), fun h => absurd h HN.out⟩, HB1.out _⟩)
          · by_cases g2 : n ≤ p k
            · clear hg
              (go_wp2; go_ret; exact ⟨_, rfl, _, rfl, ⟨fun h => absurd h (by decide), fun h => absurd h HN.out⟩, HB1.out _⟩)
            · by_cases g3 : q k < 0
              · clear hg
                (go_wp2; go_ret; exact ⟨_, rfl, _, rfl, ⟨fun h => absurd h (by decide), fun h => absurd h HN.out⟩, HB1.out _⟩)
              · by_cases g4 : n ≤ q k
                · clear hg
                  (go_wp2; go_ret; exact ⟨_, rfl, _, rfl, ⟨fun h => absurd h (by decide), fun h => absurd h HN.out⟩, HB1.out _⟩)
                · have g5 : (p k == q k) = true := by
                    have : p k = q k := Classical.byContradiction fun h => hg ⟨by omega, by omega, by omega, by omega, h⟩
                    simpa using this
                  clear hg
                  (go_wp2; go_ret; exact ⟨_, rfl, _, rfl, ⟨fun h => absurd h (by decide), fun h => absurd h HN.out⟩, HB1.out _⟩)
      · obtain rfl : k = m := by omega
        go_wp2
        go_ret
        exact ⟨_, rfl, _, rfl, ⟨fun _ => ⟨⟨h1, h6, h15⟩, HA.out⟩, fun _ => rfl⟩, HBr.out⟩
  · have HW : Hid (¬ FkRg n m p q) := Lib.hid fun h => h1 h.1
    go_enter Try.func17, Try.ntmps17
    go_wp2
    all_goals first
      | (exfalso; omega)
      | (go_ret; exact ⟨_, rfl, _, rfl, ⟨fun h => absurd h (by decide), fun h => absurd h HW.out⟩, Below.refl _ _⟩)

set_option maxHeartbeats 2000000 in
theorem twice_any (A : Option Addr) (m cap B : Nat) (p q : Nat → Int) (w : World) (hm : m ≤ cap ∧ cap ≤ maxLen) (hB : B ≤ w.heap.size) (hr : Rd w B A (m * 2) (recF2 p q)) :
    Calls Try.prog 18 #[.slice A m cap] w (Gives fun v w' => ∃ b : Bool, v = .bool b ∧ (b = true ↔ ¬ FkTw m p q) ∧ Below w.heap.size w w') := by
  obtain ⟨hmc, hm⟩ := hm
  unfold maxLen at hm
  have HR := Lib.hid (hr.more hB); clear hr
  go_enter Try.func18, Try.ntmps18
  go_wp2
  go_loopw [9] (fun i wr => ∃ k : Nat, k ≤ m ∧ i = .int .i64 k ∧ Hid (Below w.heap.size w wr) ∧ Hid (∀ i, i < k → ∀ j, j < i → ¬ Sm p q i j)) (fun i _ => m - (intOf i).toNat)
  case atStart => exact ⟨0, by omega, rfl, Below.refl _ _, fun j hj => absurd hj (by omega)⟩
  case round =>
    obtain ⟨k, hk, rfl, HBr, HA⟩ := hrel
    have hz := HBr.out.size
    by_cases hlt : k < m
    · obtain ⟨ad, rfl, hbl, c0, c1⟩ := (HR.out.below HBr.out).rec2 hlt
      have HB1 : Hid (∀ o, Below w.heap.size w (wr.alloc o)) := fun o => HBr.out.alloc hz o
      have hbl2 : (ad.add (k * 2)).block < wr.heap.size := by rw [addr_block]; omega
      obtain ⟨pk, hpk⟩ : ∃ pk, p k = pk := ⟨_, rfl⟩
      obtain ⟨qk, hqk⟩ : ∃ qk, q k = qk := ⟨_, rfl⟩
      rw [hpk] at c0
      rw [hqk] at c1
      have HPK := Lib.hid hpk
      have HQK := Lib.hid hqk
      clear hpk hqk
      go_wp2
      go_loopw [18] (fun i w2 => ∃ t : Nat, t ≤ k ∧ i = .int .i64 t ∧ Hid (Below w.heap.size w w2 ∧ w2.cell? ⟨wr.heap.size, 0, none⟩ = some (.int .i64 pk) ∧ w2.cell? ⟨wr.heap.size, 1, none⟩ = some (.int .i64 qk) ∧ wr.heap.size < w2.heap.size) ∧ Hid (∀ j, j < t → ¬ Sm p q k j)) (fun i _ => k - (intOf i).toNat)
      case atStart =>
        exact ⟨0, by omega, rfl, Lib.hid ⟨HB1.out _, (alloc2 _ _ _ _).1, (alloc2 _ _ _ _).2, by simp⟩, fun j hj => absurd hj (by omega)⟩
      case round =>
        clear HBr HB1 c0 c1 hz hbl hbl2
        obtain ⟨t, ht, rfl, HBW, HT⟩ := hrel
        obtain ⟨hb2, d0, d1, hz3⟩ := HBW.out
        have HB2 := Lib.hid hb2
        have hz2 := hb2.size
        clear hb2 HBW
        by_cases htk : t < k
        · obtain ⟨ad2, h2, hbl, c0, c1⟩ := (HR.out.below HB2.out).rec2 (show t < m by omega)
          obtain rfl : ad = ad2 := by injection h2
          clear h2
          have hbl2 : (ad.add (t * 2)).block < wr.heap.size := by rw [addr_block]; omega
          have HB3 : Hid (∀ o, Below w.heap.size w (wr.alloc o)) := fun o => HB2.out.alloc hz2 o
          have HD0 := Lib.hid fun o => (World.cell?_alloc_lt wr o _ hz3).trans d0
          have HD1 := Lib.hid fun o => (World.cell?_alloc_lt wr o _ hz3).trans d1
          obtain ⟨e1, h1⟩ : ∃ b, (pk == p t) = b := ⟨_, rfl⟩
          obtain ⟨e2, h2⟩ : ∃ b, (qk == q t) = b := ⟨_, rfl⟩
          obtain ⟨e3, h3⟩ : ∃ b, (pk == q t) = b := ⟨_, rfl⟩
          obtain ⟨e4, h4⟩ : ∃ b, (qk == p t) = b := ⟨_, rfl⟩
          have HS : Hid (Sm p q k t ↔ (e1 && e2 || e3 && e4) = true) := Lib.hid (by
            unfold Sm
            rw [HPK.out, HQK.out, ← h1, ← h2, ← h3, ← h4]
            simp)
          cases e1 <;> cases e2 <;> cases e3 <;> cases e4
          all_goals
            go_wp2
            first
              | (go_ret
                 exact ⟨_, rfl, _, rfl, ⟨fun _ hT => hT k hlt t htk (HS.out.2 rfl), fun _ => rfl⟩, HB3.out _⟩)
              | (go_roundw
                 case rel => exact ⟨t + 1, by omega, by go_num, Lib.hid ⟨HB3.out _, HD0.out _, HD1.out _, by simp; omega⟩, fun j hj => (Nat.lt_succ_iff_lt_or_eq.1 hj).elim (HT.out j) (fun e h => by subst e; exact absurd (HS.out.1 h) (by simp))⟩
                 case measure => simp [intOf]; omega)
        · obtain rfl : t = k := by omega
          go_wp2
          go_roundw
          case rel => exact ⟨t + 1, by omega, by go_num, HB2, fun i hi => (Nat.lt_succ_iff_lt_or_eq.1 hi).elim (HA.out i) (fun e => by subst e; exact HT.out)⟩
          case measure => simp [intOf]; omega
    · obtain rfl : k = m := by omega
      go_wp2
      go_ret
      exact ⟨_, rfl, _, rfl, ⟨fun h => absurd h (by simp), fun h => absurd HA.out h⟩, HBr.out⟩
end Go.Proofs.Ytcmbbioipbdonaa
