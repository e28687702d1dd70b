/- token: the tree, the asks and the token's way (Raymond). -/
import Derived.Test.YtihkbkbbllmliaaTkInv
import Derived.Test.YtihkbkbbllmliaaSeenF
set_option linter.unusedVariables false
set_option linter.unusedSimpArgs false
namespace Go.Proofs.Ytihkbkbbllmliaa

def sumN : Nat → (Nat → Nat) → Nat
  | 0, _ => 0
  | n + 1, g => sumN n g + g n
theorem sumN_congr {g h : Nat → Nat} : ∀ {n : Nat}, (∀ j, j < n → h j = g j) → sumN n h = sumN n g
  | 0, _ => rfl
  | n + 1, e => by rw [sumN, sumN, sumN_congr fun j hj => e j (by omega), e n (by omega)]
theorem sumN_put {g h : Nat → Nat} {i : Nat} : ∀ {n : Nat}, i < n → (∀ j, j < n → j ≠ i → h j = g j) → sumN n h + g i = sumN n g + h i
  | n + 1, hi, e => by
    rw [sumN, sumN]
    by_cases e1 : i = n
    · subst e1
      rw [sumN_congr fun j hj => e j (by omega) (by omega)]
      omega
    · have := sumN_put (n := n) (by omega) fun j hj => e j (by omega)
      rw [e n (by omega) (fun h => e1 h.symm)]
      omega
theorem sumN_le {g : Nat → Nat} {c : Nat} : ∀ {n : Nat}, (∀ j, j < n → g j ≤ c) → sumN n g ≤ n * c
  | 0, _ => by simp [sumN]
  | n + 1, h => by
    have := sumN_le (n := n) fun j hj => h j (by omega)
    have := h n (by omega)
    rw [sumN, Nat.succ_mul]; omega
theorem sumN_pos {g : Nat → Nat} {i : Nat} : ∀ {n : Nat}, i < n → g i ≤ sumN n g
  | n + 1, h => by
    rw [sumN]
    by_cases e : i = n
    · subst e; omega
    · have := sumN_pos (g := g) (n := n) (i := i) (by omega); omega
theorem wayQ_put {n : Nat} {q : Nat × Nat → List Bool} {p : Nat × Nat} {l : List Bool} (h1 : p.1 < n) (h2 : p.2 < n) : wayLen n (qput q p l) + (q p).length = wayLen n q + l.length := by
  unfold wayLen
  have hm := mem_pairs.2 ⟨h1, h2⟩
  rw [sum_erase (fun p => (qput q _ l p).length) hm, sum_erase (fun p => (q p).length) hm, List.map_congr_left (f := fun a => (qput q p l a).length) (g := fun a => (q a).length) fun a ha => by
    rw [qput_ne (fun e' => by subst e'; exact List.Nodup.not_mem_erase (pairs_nodup n) ha)]]
  rw [qput_same]
  omega

def nF (l : List Bool) : Nat := l.count false
def nT (l : List Bool) : Nat := l.count true
theorem nFT : ∀ l : List Bool, nF l + nT l = l.length
  | [] => rfl
  | x :: l => by
    have := nFT l
    unfold nF nT at *
    cases x <;> simp <;> omega
theorem nF_nil : nF [] = 0 := rfl
theorem nF_app (l : List Bool) (x : Bool) : nF (l ++ [x]) = nF l + if x = false then 1 else 0 := by unfold nF; cases x <;> simp
theorem nT_app (l : List Bool) (x : Bool) : nT (l ++ [x]) = nT l + if x = true then 1 else 0 := by unfold nT; cases x <;> simp
theorem nF_cons (l : List Bool) (x : Bool) : nF (x :: l) = nF l + if x = false then 1 else 0 := by unfold nF; cases x <;> simp
theorem nT_cons (l : List Bool) (x : Bool) : nT (x :: l) = nT l + if x = true then 1 else 0 := by unfold nT; cases x <;> simp
theorem nil_of {l : List Bool} (h1 : nF l = 0) (h2 : nT l = 0) : l = [] := List.eq_nil_of_length_eq_zero (by rw [← nFT]; omega)

/-- From i one comes to loc. -/
inductive Rch (p : Nat → Nat) (loc : Nat) : Nat → Prop
  | base : Rch p loc loc
  | step {i : Nat} : i ≠ loc → Rch p loc (p i) → Rch p loc i
theorem Rch.nself {p : Nat → Nat} {loc i : Nat} (h : Rch p loc i) : i ≠ loc → p i ≠ i := by
  induction h with
  | base => exact fun h => absurd rfl h
  | step h1 _ ih => exact fun _ e => by rw [e] at ih; exact ih h1 e
theorem Rch.congr {p q : Nat → Nat} {loc i : Nat} (e : ∀ j, j ≠ loc → q j = p j) (h : Rch p loc i) : Rch q loc i := by
  induction h with
  | base => exact .base
  | step h1 _ ih => exact .step h1 (by rw [e _ h1]; exact ih)
/-- The root goes to x. -/
theorem Rch.turn {p : Nat → Nat} {loc i x : Nat} (hx : x ≠ loc) (h : Rch p loc i) : Rch (upd p loc x) x i := by
  induction h with
  | base => exact .step (Ne.symm hx) (by rw [upd_same]; exact .base)
  | @step j h1 _ ih =>
    by_cases e : j = x
    · rw [e]; exact .base
    · exact .step e (by rw [upd_ne _ _ h1]; exact ih)
/-- The heads of the rows lead to one that wants in, in c steps. -/
inductive Chain (r : Nat → List Nat) : Nat → Nat → Prop
  | last {x : Nat} {l : List Nat} : r x = x :: l → Chain r x 0
  | next {x y c : Nat} {l : List Nat} : r x = y :: l → y ≠ x → Chain r y c → Chain r x (c + 1)

structure RJ (n : Nat) (s : KS) (loc src : Nat) : Prop where
  lt : loc < n
  pt : ∀ i, i < n → s.pt i < n
  row : ∀ i x, x ∈ s.row i → x < n
  one : ∀ i, (s.row i).count i ≤ 1
  hs : (s.has = loc ∧ s.pt loc = loc) ∨ (s.has = -1 ∧ src ≠ loc ∧ src < n ∧ s.pt src = loc ∧ s.row loc ≠ [])
  inn : s.inn = -1 ∨ (s.inn = loc ∧ s.has = loc)
  nb : ∀ y x, y ∈ s.row x → y ≠ x → y ≠ loc ∧ s.pt y = x
  ask : ∀ y, y < n → y ≠ loc → nF (s.way (y, s.pt y)) + (s.row (s.pt y)).count y = if s.row y = [] then 0 else 1
  tok : ∀ y x, nT (s.way (y, x)) = if s.has = -1 ∧ y = src ∧ x = loc then 1 else 0
  wy : ∀ y x, s.way (y, x) ≠ [] → y < n ∧ y ≠ loc ∧ s.pt y = x
  rch : ∀ i, i < n → Rch s.pt loc i
def outN (n : Nat) (s : KS) (loc : Nat) : Nat := sumN n fun y => if y ≠ loc ∧ s.row y ≠ [] then 1 else 0
def pendN (n : Nat) (s : KS) : Nat := sumN n fun y => (s.row y).count y
theorem RJ.nself {n loc src i : Nat} {s : KS} (h : RJ n s loc src) (hi : i < n) (hl : i ≠ loc) : s.pt i ≠ i := (h.rch i hi).nself hl
theorem RJ.busy {n loc src x y : Nat} {s : KS} (h : RJ n s loc src) (hm : y ∈ s.row x) (hn : y ≠ x) : s.row y ≠ [] := by
  obtain ⟨h1, h2⟩ := h.nb y x hm hn
  have := h.ask y (h.row x y hm) h1
  rw [h2] at this
  intro e
  rw [if_pos e] at this
  have := List.count_pos_iff.2 hm
  omega

/-- The nodes from x up to loc. -/
inductive UpK (p : Nat → Nat) (loc : Nat) : List Nat → Prop
  | base : UpK p loc [loc]
  | cons {x y : Nat} {l : List Nat} : y ≠ loc → p y = x → y ∉ x :: l → UpK p loc (x :: l) → UpK p loc (y :: x :: l)
theorem UpK.nodup {p : Nat → Nat} {loc : Nat} {l : List Nat} (h : UpK p loc l) : l.Nodup := by
  induction h with
  | base => simp
  | cons _ _ h3 _ ih => exact List.nodup_cons.2 ⟨h3, ih⟩
theorem UpK.pt {p : Nat → Nat} {loc : Nat} {l : List Nat} (h : UpK p loc l) : ∀ z, z ∈ l → z ≠ loc → p z ∈ l.tail := by
  induction h with
  | base => intro z hz hn; simp at hz; exact absurd hz hn
  | cons h1 h2 _ _ ih =>
    intro z hz hn
    rcases List.mem_cons.1 hz with e | hz
    · subst e; rw [h2]; exact List.mem_cons_self
    · exact List.mem_cons_of_mem _ (ih z hz hn)
theorem nodup_lt : ∀ {n : Nat} {l : List Nat}, l.Nodup → (∀ x, x ∈ l → x < n) → l.length ≤ n
  | 0, l, _, h => by
    cases l with
    | nil => exact Nat.le_refl _
    | cons x l => exact absurd (h x List.mem_cons_self) (by omega)
  | n + 1, l, hd, h => by
    have h1 : (l.erase n).length ≤ n := nodup_lt (hd.erase n) fun x hx => by
      have := h x (List.mem_of_mem_erase hx)
      have : x ≠ n := fun e => by subst e; exact List.Nodup.not_mem_erase hd hx
      omega
    have := List.length_erase_le (l := l) (a := n)
    by_cases hm : n ∈ l
    · rw [List.length_erase_of_mem hm] at h1; omega
    · rw [List.erase_of_not_mem hm] at h1; omega
theorem RJ.chain_up {n loc src : Nat} {s : KS} (h : RJ n s loc src) : ∀ (f x : Nat) (l : List Nat), UpK s.pt loc (x :: l) → (∀ z, z ∈ x :: l → z < n) → s.row x ≠ [] → n ≤ l.length + 1 + f → ∃ c, Chain s.row x c ∧ l.length + 1 + c ≤ n := by
  intro f
  induction f with
  | zero =>
    intro x l hu hl hr hf
    have hle := nodup_lt hu.nodup hl
    simp only [List.length_cons] at hle
    cases hw : s.row x with
    | nil => exact absurd hw hr
    | cons y r =>
      by_cases e : y = x
      · subst e; exact ⟨0, .last hw, by omega⟩
      · exfalso
        obtain ⟨h1, h2⟩ := h.nb y x (by rw [hw]; exact List.mem_cons_self) e
        have hy : y ∉ x :: l := fun hm => by
          have := hu.pt y hm h1
          rw [h2] at this
          exact (List.nodup_cons.1 hu.nodup).1 this
        have hle2 := nodup_lt (UpK.cons h1 h2 hy hu).nodup (fun z hz => by
          rcases List.mem_cons.1 hz with e2 | hz
          · rw [e2]; exact h.row x y (by rw [hw]; exact List.mem_cons_self)
          · exact hl z hz)
        simp only [List.length_cons] at hle2
        omega
  | succ f ih =>
    intro x l hu hl hr hf
    have hle := nodup_lt hu.nodup hl
    simp only [List.length_cons] at hle
    cases hw : s.row x with
    | nil => exact absurd hw hr
    | cons y r =>
      by_cases e : y = x
      · subst e; exact ⟨0, .last hw, by omega⟩
      · have hyx : y ∈ s.row x := by rw [hw]; exact List.mem_cons_self
        obtain ⟨h1, h2⟩ := h.nb y x hyx e
        have hy : y ∉ x :: l := fun hm => by
          have := hu.pt y hm h1
          rw [h2] at this
          exact (List.nodup_cons.1 hu.nodup).1 this
        obtain ⟨c, h3, h4⟩ := ih y (x :: l) (.cons h1 h2 hy hu) (fun z hz => by
          rcases List.mem_cons.1 hz with e2 | hz
          · rw [e2]; exact h.row x y hyx
          · exact hl z hz) (h.busy hyx e) (by simp only [List.length_cons]; omega)
        simp only [List.length_cons] at h4
        exact ⟨c + 1, .next hw e h3, by omega⟩
theorem RJ.chain {n loc src : Nat} {s : KS} (h : RJ n s loc src) (hr : s.row loc ≠ []) : ∃ c, Chain s.row loc c ∧ c + 1 ≤ n := by
  obtain ⟨c, h1, h2⟩ := h.chain_up n loc [] .base (fun z hz => by simp at hz; rw [hz]; exact h.lt) hr (by simp)
  exact ⟨c, h1, by simp at h2; omega⟩
theorem Chain.grow {r r' : Nat → List Nat} {x c : Nat} (hr : ∀ x y l, r x = y :: l → ∃ l', r' x = y :: l') (h : Chain r x c) : Chain r' x c := by
  induction h with
  | last h => obtain ⟨l', h'⟩ := hr _ _ _ h; exact .last h'
  | next h h1 _ ih => obtain ⟨l', h'⟩ := hr _ _ _ h; exact .next h' h1 ih
/-- The rows but loc's stay. -/
theorem RJ.chain_off {n loc src : Nat} {s : KS} {r' : Nat → List Nat} (h : RJ n s loc src) (hr : ∀ x, x ≠ loc → r' x = s.row x) {x c : Nat} (hc : Chain s.row x c) : x ≠ loc → Chain r' x c := by
  induction hc with
  | last h1 => exact fun hx => .last (by rw [hr _ hx]; exact h1)
  | next h1 h2 _ ih => exact fun hx => .next (by rw [hr _ hx]; exact h1) h2 (ih (h.nb _ _ (by rw [h1]; exact List.mem_cons_self) h2).1)
end Go.Proofs.Ytihkbkbbllmliaa
