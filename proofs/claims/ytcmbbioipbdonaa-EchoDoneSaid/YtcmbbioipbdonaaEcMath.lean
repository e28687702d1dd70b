/- The echo algorithm in plain functions, and what always holds. -/
import Derived.Test.YtcmbbioipbdonaaMv
import Derived.Test.YtcmbbioipbdonaaSum
set_option linter.unusedVariables false
set_option linter.unusedSimpArgs false
namespace Go.Proofs.Ytcmbbioipbdonaa
open Go.RowKit

structure ES where
  near : Nat → List Nat
  way : List (Nat × Nat)
  wait : Nat → Int
  frm : Nat → Int
  sent : Nat
def sends (a : Nat) (l : List Nat) (s : ES) : ES := { s with way := s.way ++ l.map (fun j => (a, j)), sent := s.sent + l.length }
def takeA (f t : Nat) (s : ES) : ES := if s.frm t = -1 then sends t ((s.near t).filter fun j => j != f) { s with frm := upd s.frm t (f : Nat) } else s
def takeB (t : Nat) (s : ES) : ES := { s with wait := upd s.wait t (s.wait t - 1) }
def takeC (t : Nat) (s : ES) : ES := if s.wait t = 0 ∧ 0 ≤ s.frm t then sends t [(s.frm t).toNat] s else s
def takeS (f t : Nat) (s : ES) : ES := takeC t (takeB t (takeA f t s))
def pull (k : Nat) (s : ES) : ES := { s with way := s.way.eraseIdx k }
def stepS (k : Int) (s : ES) : Int × ES :=
  if 0 ≤ k ∧ k.toNat < s.way.length then (0, takeS (s.way.getD k.toNat (0, 0)).1 (s.way.getD k.toNat (0, 0)).2 (pull k.toNat s)) else (4, s)
def ecE (s0 : ES) (o : Nat → Int) : Nat → ES
  | 0 => s0
  | j + 1 => (stepS (o j) (ecE s0 o j)).2
def ecC (s0 : ES) (o : Nat → Int) (j : Nat) : Int := (stepS (o j) (ecE s0 o j)).1
/-- Who is joined with whom, link by link. -/
def nearK (p q : Nat → Nat) : Nat → Nat → List Nat
  | 0, _ => []
  | k + 1, i => if i = p k then nearK p q k i ++ [q k] else if i = q k then nearK p q k i ++ [p k] else nearK p q k i
def nearS (p q : Nat → Nat) (m i : Nat) : List Nat := (nearK p q m i).mergeSort fun x y => decide (x ≤ y)
def ec0 (p q : Nat → Nat) (m : Nat) : ES := ⟨nearS p q m, [], fun i => ((nearS p q m i).length : Nat), fun _ => -1, 0⟩
def ec1 (p q : Nat → Nat) (m st : Nat) : ES := sends st (nearS p q m st) { ec0 p q m with frm := upd (fun _ => -1) st (-2) }
theorem nearK_succ (p q : Nat → Nat) (k i : Nat) : nearK p q (k + 1) i = if i = p k then nearK p q k i ++ [q k] else if i = q k then nearK p q k i ++ [p k] else nearK p q k i := rfl
/-- Links that may be. -/
structure LkP (n m : Nat) (p q : Nat → Nat) : Prop where
  h6 : n ≤ 6
  hm : m ≤ 15
  at_ : ∀ j, j < m → p j < n ∧ q j < n ∧ p j ≠ q j
  one : ∀ i, i < m → ∀ j, j < i → ¬ (p i = p j ∧ q i = q j ∨ p i = q j ∧ q i = p j)
section
variable {n m : Nat} {p q : Nat → Nat}
theorem nearK_mem : ∀ (m : Nat) (i b : Nat), b ∈ nearK p q m i ↔ ∃ k, k < m ∧ (p k = i ∧ q k = b ∨ i ≠ p k ∧ q k = i ∧ p k = b)
  | 0, i, b => by simp [nearK]
  | m + 1, i, b => by
    have ih := nearK_mem m i b
    have step : (∃ k, k < m + 1 ∧ (p k = i ∧ q k = b ∨ i ≠ p k ∧ q k = i ∧ p k = b)) ↔ (∃ k, k < m ∧ (p k = i ∧ q k = b ∨ i ≠ p k ∧ q k = i ∧ p k = b)) ∨ (p m = i ∧ q m = b ∨ i ≠ p m ∧ q m = i ∧ p m = b) := by
      constructor
      · rintro ⟨k, hk, h⟩
        rcases Nat.lt_succ_iff_lt_or_eq.1 hk with hl | rfl
        · exact .inl ⟨k, hl, h⟩
        · exact .inr h
      · rintro (⟨k, hk, h⟩ | h)
        · exact ⟨k, by omega, h⟩
        · exact ⟨m, by omega, h⟩
    rw [step, ← ih, nearK_succ]
    split
    · rename_i h
      rw [List.mem_append, List.mem_singleton]
      constructor
      · rintro (h1 | h1)
        · exact .inl h1
        · exact .inr (.inl ⟨h.symm, h1.symm⟩)
      · rintro (h1 | ⟨_, h1⟩ | ⟨h1, _⟩)
        · exact .inl h1
        · exact .inr h1.symm
        · exact absurd h h1
    · rename_i h
      split
      · rename_i h2
        rw [List.mem_append, List.mem_singleton]
        constructor
        · rintro (h1 | h1)
          · exact .inl h1
          · exact .inr (.inr ⟨h, h2.symm, h1.symm⟩)
        · rintro (h1 | ⟨h1, _⟩ | ⟨_, _, h1⟩)
          · exact .inl h1
          · exact absurd h1.symm h
          · exact .inr h1.symm
      · rename_i h2
        constructor
        · exact .inl
        · rintro (h1 | ⟨h1, _⟩ | ⟨_, h1, _⟩)
          · exact h1
          · exact absurd h1.symm h
          · exact absurd h1.symm h2
theorem nearK_nodup (h1 : ∀ i, i < m → ∀ j, j < i → ¬ (p i = p j ∧ q i = q j ∨ p i = q j ∧ q i = p j)) (i : Nat) : ∀ k, k ≤ m → (nearK p q k i).Nodup
  | 0, _ => by simp [nearK]
  | k + 1, hk => by
    have ih := nearK_nodup h1 i k (by omega)
    have one := h1 k (by omega)
    rw [nearK_succ]
    split
    · rename_i h
      rw [List.nodup_append]
      refine ⟨ih, by simp, fun a ha b hb e => ?_⟩
      obtain rfl : b = q k := by simpa using hb
      subst e
      obtain ⟨j, hj, h2⟩ := (nearK_mem k i _).1 ha
      exact one j hj (by rcases h2 with ⟨a, b⟩ | ⟨_, a, b⟩; exact .inl ⟨by omega, by omega⟩; exact .inr ⟨by omega, by omega⟩)
    · split
      · rename_i h h2
        rw [List.nodup_append]
        refine ⟨ih, by simp, fun a ha b hb e => ?_⟩
        obtain rfl : b = p k := by simpa using hb
        subst e
        obtain ⟨j, hj, h3⟩ := (nearK_mem k i _).1 ha
        exact one j hj (by rcases h3 with ⟨a, b⟩ | ⟨_, a, b⟩; exact .inr ⟨by omega, by omega⟩; exact .inl ⟨by omega, by omega⟩)
      · exact ih
theorem nearS_mem (i b : Nat) : b ∈ nearS p q m i ↔ b ∈ nearK p q m i := by unfold nearS; exact List.mem_mergeSort
theorem nearS_len (i : Nat) : (nearS p q m i).length = (nearK p q m i).length := by unfold nearS; exact List.length_mergeSort _
theorem nearK_len (i : Nat) : ∀ k, (nearK p q k i).length ≤ k
  | 0 => by simp [nearK]
  | k + 1 => by
    have := nearK_len i k
    rw [nearK_succ]
    split
    · simp; omega
    · split
      · simp; omega
      · omega
theorem nearS_nodup (h : LkP n m p q) (i : Nat) : (nearS p q m i).Nodup := (List.mergeSort_perm ..).nodup_iff.2 (nearK_nodup h.one i m (Nat.le_refl _))
theorem nearS_at (h : LkP n m p q) {a b : Nat} (hb : b ∈ nearS p q m a) : a < n ∧ b < n ∧ a ≠ b ∧ a ∈ nearS p q m b := by
  rw [nearS_mem, nearK_mem] at hb
  rw [nearS_mem, nearK_mem]
  obtain ⟨k, hk, h1⟩ := hb
  have := h.at_ k hk
  rcases h1 with ⟨rfl, rfl⟩ | ⟨h0, rfl, rfl⟩
  · exact ⟨this.1, this.2.1, this.2.2, k, hk, .inr ⟨fun e => this.2.2 e.symm, rfl, rfl⟩⟩
  · exact ⟨this.2.1, this.1, fun e => this.2.2 e.symm, k, hk, .inl ⟨rfl, rfl⟩⟩
theorem nearS_link {a b : Nat} : b ∈ nearS p q m a ↔ ∃ k, k < m ∧ (p k = a ∧ q k = b ∨ a ≠ p k ∧ q k = a ∧ p k = b) := by rw [nearS_mem, nearK_mem]
end
/-- A message was sent. -/
def Sent (s : ES) (a b : Nat) : Prop := b ∈ s.near a ∧ s.frm a ≠ -1 ∧ (s.frm a = (b : Nat) → s.wait a = 0)
/-- How many one has sent. -/
def outN (s : ES) (a : Nat) : Nat := if s.frm a = -1 then 0 else if s.frm a = -2 then (s.near a).length else (s.near a).length - 1 + (if s.wait a = 0 then 1 else 0)
def hrd (s : ES) (a : Nat) : Nat := if s.frm a = -1 then 0 else 1
/-- What always holds: rc b a: b has what a sent; dep: how far from the start. -/
structure EI (n st : Nat) (s : ES) (rc : Nat → Nat → Bool) (dep : Nat → Nat) : Prop where
  nb : ∀ a b, b ∈ s.near a → a < n ∧ b < n ∧ a ≠ b ∧ a ∈ s.near b
  nd : ∀ a, (s.near a).Nodup
  hst : st < n
  fs : s.frm st = -2
  fr : ∀ a, a < n → a ≠ st → s.frm a = -1 ∨ ∃ p : Nat, s.frm a = (p : Nat) ∧ p ∈ s.near a ∧ rc a p = true ∧ s.frm p ≠ -1 ∧ dep a = dep p + 1
  wt : ∀ a, a < n → s.wait a = ((s.near a).countP fun b => !rc a b : Nat)
  un : ∀ a, s.frm a = -1 → ∀ b, rc a b = false
  wnd : s.way.Nodup
  wm : ∀ a b, (a, b) ∈ s.way ↔ Sent s a b ∧ rc b a = false
  rs : ∀ a b, rc b a = true → Sent s a b
  d0 : dep st = 0
  dn : ∀ a, a < n → s.frm a ≠ -1 → dep a < sumN n (hrd s)
  snt : s.sent = sumN n (outN s)
section
variable {n st : Nat} {s : ES} {rc : Nat → Nat → Bool} {dep : Nat → Nat}
theorem countP_set {l : List Nat} {g h : Nat → Bool} {x : Nat} (hnd : l.Nodup) (hx : x ∈ l) (hg : g x = true) (hh : h x = false) (he : ∀ y, y ≠ x → h y = g y) : l.countP g = l.countP h + 1 := by
  induction l with
  | nil => cases hx
  | cons y l ih =>
    rw [List.nodup_cons] at hnd
    by_cases e : y = x
    · subst e
      have : l.countP h = l.countP g := List.countP_congr fun z hz => by
        rw [he z (fun e => hnd.1 (e ▸ hz))]
      rw [List.countP_cons_of_pos hg, List.countP_cons_of_neg (by simp [hh]), this]
    · have hx' : x ∈ l := by rcases List.mem_cons.1 hx with h | h; exact absurd h.symm e; exact h
      have := ih hnd.2 hx'
      rw [List.countP_cons, List.countP_cons, he y e, this]
      omega
/-- Where someone waits for none it has heard from all. -/
theorem EI.all_rc (h : EI n st s rc dep) {a b : Nat} (ha : a < n) (hw : s.wait a = 0) (hb : b ∈ s.near a) : rc a b = true := by
  have h1 := h.wt a ha
  rw [hw] at h1
  have h2 : (s.near a).countP (fun b => !rc a b) = 0 := by omega
  have := List.countP_eq_zero.1 h2 b hb
  simpa using this
end
end Go.Proofs.Ytcmbbioipbdonaa
