/- Words on memory that all walks of this seat use: a slice that reads as a list, small facts on lists and endings. -/
import Derived.Test.YtfdgjbanajodfaaDoorRows
import Derived.WalkKit
import Derived.WalkSpells
import Derived.WalkLawsBesides
import Derived.Lib.Hide
import Derived.IntWalk
import Derived.Laws.OwnMore
import Derived.Deep.Draws
set_option linter.unusedVariables false
set_option linter.unusedSimpArgs false
namespace Go.Proofs.YtfdgjbanajodfaaDoor
open Go.RowKit

theorem ret_int {k : IntKind} {a b : Int} (h : a = b) : Ending.returned (.int k a) = .returned (.int k b) := by rw [h]
theorem ret_bool {a b : Bool} (h : a = b) : Ending.returned (.bool a) = .returned (.bool b) := by rw [h]

theorem ret_ints {k k2 : IntKind} {a b c d : Int} (h : a = b) (h2 : c = d) : Ending.returned (.tuple #[.int k a, .int k2 c]) = .returned (.tuple #[.int k b, .int k2 d]) := by rw [h, h2]

theorem bool_is {P : Program} {f : FuncId} {args : Array Value} {w : World} {b c : Bool} (h : Calls P f args w fun e w' => e = .returned (.bool b) ∧ w = w') (hb : b = c) :
    Calls P f args w fun e w' => e = .returned (.bool c) ∧ w = w' := by rw [← hb]; exact h
theorem int_is {P : Program} {f : FuncId} {args : Array Value} {w : World} {k : IntKind} {b c : Int} (h : Calls P f args w fun e w' => e = .returned (.int k b) ∧ w = w') (hb : b = c) :
    Calls P f args w fun e w' => e = .returned (.int k c) ∧ w = w' := by rw [← hb]; exact h

theorem int_is_b {P : Program} {f : FuncId} {args : Array Value} {w : World} {k : IntKind} {b c : Int} {R : World → Prop} (h : Calls P f args w fun e w' => e = .returned (.int k b) ∧ R w') (hb : b = c) :
    Calls P f args w fun e w' => e = .returned (.int k c) ∧ R w' := by rw [← hb]; exact h
theorem bool_is_b {P : Program} {f : FuncId} {args : Array Value} {w : World} {b c : Bool} {R : World → Prop} (h : Calls P f args w fun e w' => e = .returned (.bool b) ∧ R w') (hb : b = c) :
    Calls P f args w fun e w' => e = .returned (.bool c) ∧ R w' := by rw [← hb]; exact h

theorem take_snoc {α : Type} (l : List α) (d : α) {k : Nat} (h : k < l.length) : l.take (k + 1) = l.take k ++ [l[k]?.getD d] := by
  rw [List.take_succ_eq_append_getElem h, List.getElem?_eq_getElem h]; rfl

theorem addr_block (a : Addr) (n : Nat) : (a.add n).block = a.block := by unfold Addr.add; split <;> rfl
theorem addr_add (a : Addr) (i j : Nat) : (a.add i).add j = a.add (i + j) := by
  unfold Addr.add
  by_cases hi : i = 0 <;> by_cases hj : j = 0 <;> simp [hi, hj, Nat.add_assoc]

/-- The slice at address A of n elements of one cell each reads as f; it lies below block B. -/
def Rd (w : World) (B : Nat) (A : Option Addr) (n : Nat) (f : Nat → Value) : Prop :=
  0 < n → ∃ ad, A = some ad ∧ ad.block < B ∧ ∀ j, j < n → w.cell? (ad.add j) = some (f j)

theorem Rd.zero (w : World) (B : Nat) (A : Option Addr) (f : Nat → Value) : Rd w B A 0 f := fun h => absurd h (by omega)
theorem Rd.keep {w w' : World} {B n : Nat} {A : Option Addr} {f : Nat → Value} (h : Rd w B A n f) (hk : ∀ p : Addr, p.block < B → w'.cell? p = w.cell? p) : Rd w' B A n f := fun hn => by
  obtain ⟨ad, e, hb, hc⟩ := h hn
  exact ⟨ad, e, hb, fun j hj => (hk _ (by rw [addr_block]; exact hb)).trans (hc j hj)⟩
theorem Rd.more {w : World} {B B' n : Nat} {A : Option Addr} {f : Nat → Value} (h : Rd w B A n f) (hB : B ≤ B') : Rd w B' A n f := fun hn => by
  obtain ⟨ad, e, hb, hc⟩ := h hn
  exact ⟨ad, e, by omega, hc⟩
theorem Rd.below {w w' : World} {B n : Nat} {A : Option Addr} {f : Nat → Value} (h : Rd w B A n f) (hb : Below B w w') : Rd w' B A n f := h.keep fun _ hp => hb.cell hp
theorem Rd.less {w : World} {B n m : Nat} {A : Option Addr} {f : Nat → Value} (h : Rd w B A n f) (hm : m ≤ n) : Rd w B A m f := fun hn => by
  obtain ⟨ad, e, hb, hc⟩ := h (by omega)
  exact ⟨ad, e, hb, fun j hj => hc j (by omega)⟩
theorem Rd.congr {w : World} {B n : Nat} {A : Option Addr} {f g : Nat → Value} (h : Rd w B A n f) (hg : ∀ j, j < n → f j = g j) : Rd w B A n g := fun hn => by
  obtain ⟨ad, e, hb, hc⟩ := h hn
  exact ⟨ad, e, hb, fun j hj => (hc j hj).trans (by rw [hg j hj])⟩

/-- The cells of records of three and of four numbers, one behind the other. -/
def recF3 (p k m : Nat → Int) : Nat → Value := fun j => .int .i64 (if j % 3 = 0 then p (j / 3) else if j % 3 = 1 then k (j / 3) else m (j / 3))
def recF4 (p k m v : Nat → Int) : Nat → Value := fun j => .int .i64 (if j % 4 = 0 then p (j / 4) else if j % 4 = 1 then k (j / 4) else if j % 4 = 2 then m (j / 4) else v (j / 4))
theorem recF3_0 (p k m : Nat → Int) (j : Nat) : recF3 p k m (j * 3) = .int .i64 (p j) := by
  have h1 : j * 3 % 3 = 0 := by omega
  have h2 : j * 3 / 3 = j := by omega
  simp [recF3, h1, h2]
theorem recF3_1 (p k m : Nat → Int) (j : Nat) : recF3 p k m (j * 3 + 1) = .int .i64 (k j) := by
  have h1 : (j * 3 + 1) % 3 = 1 := by omega
  have h2 : (j * 3 + 1) / 3 = j := by omega
  simp [recF3, h1, h2]
theorem recF3_2 (p k m : Nat → Int) (j : Nat) : recF3 p k m (j * 3 + 2) = .int .i64 (m j) := by
  have h1 : (j * 3 + 2) % 3 = 2 := by omega
  have h2 : (j * 3 + 2) / 3 = j := by omega
  simp [recF3, h1, h2]
theorem recF4_0 (p k m v : Nat → Int) (j : Nat) : recF4 p k m v (j * 4) = .int .i64 (p j) := by
  have h1 : j * 4 % 4 = 0 := by omega
  have h2 : j * 4 / 4 = j := by omega
  simp [recF4, h1, h2]
theorem recF4_1 (p k m v : Nat → Int) (j : Nat) : recF4 p k m v (j * 4 + 1) = .int .i64 (k j) := by
  have h1 : (j * 4 + 1) % 4 = 1 := by omega
  have h2 : (j * 4 + 1) / 4 = j := by omega
  simp [recF4, h1, h2]
theorem recF4_2 (p k m v : Nat → Int) (j : Nat) : recF4 p k m v (j * 4 + 2) = .int .i64 (m j) := by
  have h1 : (j * 4 + 2) % 4 = 2 := by omega
  have h2 : (j * 4 + 2) / 4 = j := by omega
  simp [recF4, h1, h2]
theorem recF4_3 (p k m v : Nat → Int) (j : Nat) : recF4 p k m v (j * 4 + 3) = .int .i64 (v j) := by
  have h1 : (j * 4 + 3) % 4 = 3 := by omega
  have h2 : (j * 4 + 3) / 4 = j := by omega
  simp [recF4, h1, h2]
theorem Rd.rec3 {w : World} {B n : Nat} {A : Option Addr} {p k m : Nat → Int} (h : Rd w B A (n * 3) (recF3 p k m)) {j : Nat} (hj : j < n) :
    ∃ ad, A = some ad ∧ ad.block < B ∧ w.cell? (ad.add (j * 3)) = some (.int .i64 (p j)) ∧ w.cell? ⟨(ad.add (j * 3)).block, (ad.add (j * 3)).off + 1, none⟩ = some (.int .i64 (k j)) ∧
      w.cell? ⟨(ad.add (j * 3)).block, (ad.add (j * 3)).off + 2, none⟩ = some (.int .i64 (m j)) := by
  obtain ⟨ad, e, hb, hc⟩ := h (by omega)
  have h0 := hc (j * 3) (by omega)
  have h1 := hc (j * 3 + 1) (by omega)
  have h2 := hc (j * 3 + 2) (by omega)
  rw [← addr_add] at h1 h2
  rw [recF3_0] at h0
  rw [recF3_1] at h1
  rw [recF3_2] at h2
  exact ⟨ad, e, hb, h0, h1, h2⟩
theorem Rd.rec4 {w : World} {B n : Nat} {A : Option Addr} {p k m v : Nat → Int} (h : Rd w B A (n * 4) (recF4 p k m v)) {j : Nat} (hj : j < n) :
    ∃ ad, A = some ad ∧ ad.block < B ∧ w.cell? (ad.add (j * 4)) = some (.int .i64 (p j)) ∧ w.cell? ⟨(ad.add (j * 4)).block, (ad.add (j * 4)).off + 1, none⟩ = some (.int .i64 (k j)) ∧
      w.cell? ⟨(ad.add (j * 4)).block, (ad.add (j * 4)).off + 2, none⟩ = some (.int .i64 (m j)) ∧ w.cell? ⟨(ad.add (j * 4)).block, (ad.add (j * 4)).off + 3, none⟩ = some (.int .i64 (v j)) := by
  obtain ⟨ad, e, hb, hc⟩ := h (by omega)
  have h0 := hc (j * 4) (by omega)
  have h1 := hc (j * 4 + 1) (by omega)
  have h2 := hc (j * 4 + 2) (by omega)
  have h3 := hc (j * 4 + 3) (by omega)
  rw [← addr_add] at h1 h2 h3
  rw [recF4_0] at h0
  rw [recF4_1] at h1
  rw [recF4_2] at h2
  rw [recF4_3] at h3
  exact ⟨ad, e, hb, h0, h1, h2, h3⟩

/-- Is there a place below n at which p holds? -/
def anyTo (p : Nat → Bool) : Nat → Bool
  | 0 => false
  | n + 1 => anyTo p n || p n
theorem anyTo_iff {p : Nat → Bool} {n : Nat} : anyTo p n = true ↔ ∃ j, j < n ∧ p j = true := by
  induction n with
  | zero => simp [anyTo]
  | succ n ih =>
    rw [anyTo, Bool.or_eq_true, ih]
    constructor
    · rintro (⟨j, h, hp⟩ | hp)
      · exact ⟨j, by omega, hp⟩
      · exact ⟨n, by omega, hp⟩
    · rintro ⟨j, h, hp⟩
      rcases Nat.lt_succ_iff_lt_or_eq.1 h with h | rfl
      · exact .inl ⟨j, h, hp⟩
      · exact .inr hp
theorem anyTo_no {p : Nat → Bool} {n : Nat} : anyTo p n = false ↔ ∀ j, j < n → p j = false := by
  rw [← Bool.not_eq_true, anyTo_iff]
  constructor
  · intro h j hj
    cases hp : p j
    · rfl
    · exact absurd ⟨j, hj, hp⟩ h
  · rintro h ⟨j, hj, hp⟩
    rw [h j hj] at hp
    cases hp

theorem u32_nat {s : Int} (h : (Lit.int .u32 s).wf = true) : ∃ k : Nat, s = k ∧ k < 4294967296 := by
  have : 0 ≤ s ∧ s ≤ 4294967295 := by simpa [Lit.wf, IntKind.min, IntKind.max, IntKind.signed, IntKind.bits] using h
  exact ⟨s.toNat, by omega, by omega⟩
theorem u8_nat {s : Int} (h : (Lit.int .u8 s).wf = true) : ∃ k : Nat, s = k ∧ k < 256 := by
  have : 0 ≤ s ∧ s ≤ 255 := by simpa [Lit.wf, IntKind.min, IntKind.max, IntKind.signed, IntKind.bits] using h
  exact ⟨s.toNat, by omega, by omega⟩

/-- What all new cells of a run leave as it was. -/
theorem bcell {W w1 : World} {B : Nat} (hb : Below B W w1) : ∀ b o, b < B → w1.cell? ⟨b, o, none⟩ = W.cell? ⟨b, o, none⟩ :=
  fun b o h => hb.cell (p := ⟨b, o, none⟩) h
end Go.Proofs.YtfdgjbanajodfaaDoor
