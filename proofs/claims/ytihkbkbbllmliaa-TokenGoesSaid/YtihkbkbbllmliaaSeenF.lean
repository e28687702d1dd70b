/- What a range over a map has seen, summed: of a map of queues, how many stand in all. -/
import Derived.Test.YtihkbkbbllmliaaWayQ
import Derived.Test.YtihkbkbbllmliaaRange
set_option linter.unusedVariables false
set_option linter.unusedSimpArgs false
namespace Go.Proofs.Ytihkbkbbllmliaa
open Go.RowKit Go.Maps Go.MapKept

def lenV : Value → Nat
  | .slice _ n _ => n
  | _ => 0
def seenF (F : MapEntry → Nat) : List MapEntry → Array Nat → Nat
  | [], _ => 0
  | e :: es, seen => (if seen.contains e.born = true then F e else 0) + seenF F es seen
theorem seenF_none (F : MapEntry → Nat) (es : List MapEntry) : seenF F es #[] = 0 := by
  induction es with
  | nil => rfl
  | cons e es ih => rw [seenF, ih]; simp
theorem seenF_push {F : MapEntry → Nat} {seen : Array Nat} {e : MapEntry} (hs : seen.contains e.born = false) : ∀ {es : List MapEntry}, (es.map (·.born)).Nodup → e ∈ es → seenF F es (seen.push e.born) = seenF F es seen + F e
  | [], _, h => by simp at h
  | x :: es, hn, h => by
    have hn' : x.born ∉ es.map (·.born) ∧ (es.map (·.born)).Nodup := List.nodup_cons.1 hn
    have hout : ∀ {es : List MapEntry}, e.born ∉ es.map (·.born) → seenF F es (seen.push e.born) = seenF F es seen := by
      intro es
      induction es with
      | nil => intro _; rfl
      | cons y es ih =>
        intro hy
        simp only [List.map_cons, List.mem_cons, not_or] at hy
        rw [seenF, seenF, ih hy.2]
        congr 1
        rw [contains_push]
        have : (y.born == e.born) = false := by rw [beq_eq_false_iff_ne]; exact fun h => hy.1 h.symm
        have h2 : (e.born == y.born) = false := by rw [beq_eq_false_iff_ne]; exact hy.1
        simp [this, h2]
    rcases List.mem_cons.1 h with rfl | h
    · rw [seenF, seenF, hout hn'.1, hs, contains_push]
      simp
      omega
    · have hne : x.born ≠ e.born := fun e1 => hn'.1 (by rw [e1]; exact List.mem_map.2 ⟨e, h, rfl⟩)
      rw [seenF, seenF, seenF_push hs hn'.2 h, contains_push]
      have h1 : (x.born == e.born) = false := by rw [beq_eq_false_iff_ne]; exact hne
      have h2 : (e.born == x.born) = false := by rw [beq_eq_false_iff_ne]; exact fun h => hne h.symm
      simp only [h1, h2, Bool.or_false]
      omega
theorem seenF_all {F : MapEntry → Nat} {seen : Array Nat} : ∀ {es : List MapEntry}, (∀ x, x ∈ es → seen.contains x.born = true) → seenF F es seen = (es.map F).sum
  | [], _ => rfl
  | x :: es, h => by rw [seenF, seenF_all fun y hy => h y (List.mem_cons_of_mem _ hy), if_pos (h x List.mem_cons_self), List.map_cons, List.sum_cons]
theorem seenF_le (F : MapEntry → Nat) (seen : Array Nat) : ∀ es : List MapEntry, seenF F es seen ≤ (es.map F).sum
  | [] => Nat.le_refl _
  | x :: es => by
    have := seenF_le F seen es
    rw [seenF, List.map_cons, List.sum_cons]
    split <;> omega
theorem sum_le {α : Type} {g : α → Nat} {B : Nat} : ∀ {l : List α}, (∀ a, a ∈ l → g a ≤ B) → (l.map g).sum ≤ l.length * B
  | [], _ => Nat.zero_le _
  | x :: l, h => by
    have h1 := sum_le (l := l) fun a ha => h a (List.mem_cons_of_mem _ ha)
    have h2 := h x List.mem_cons_self
    rw [List.map_cons, List.sum_cons, List.length_cons, Nat.add_mul]
    omega
theorem sum_erase {α : Type} [BEq α] [LawfulBEq α] (g : α → Nat) {a : α} : ∀ {P : List α}, a ∈ P → (P.map g).sum = g a + ((P.erase a).map g).sum
  | [], h => by simp at h
  | x :: P, h => by
    by_cases e : x = a
    · subst e
      rw [List.erase_cons_head]; rfl
    · rw [List.erase_cons_tail (by simpa using e), List.map_cons, List.sum_cons, List.map_cons, List.sum_cons, sum_erase g ((List.mem_cons.1 h).resolve_left fun e' => e e'.symm)]
      omega
theorem sum_sub {α : Type} [DecidableEq α] (g : α → Nat) : ∀ {K P : List α}, K.Nodup → P.Nodup → (∀ a, a ∈ K → a ∈ P) → (∀ p, p ∈ P → p ∉ K → g p = 0) → (K.map g).sum = (P.map g).sum
  | [], P, _, _, _, h0 => by
    have : ∀ P : List α, (∀ p, p ∈ P → g p = 0) → (P.map g).sum = 0 := by
      intro P
      induction P with
      | nil => intro _; rfl
      | cons x P ih => intro h; rw [List.map_cons, List.sum_cons, h x List.mem_cons_self, ih fun p hp => h p (List.mem_cons_of_mem _ hp)]
    rw [this P fun p hp => h0 p hp (by simp)]; rfl
  | a :: K, P, hK, hP, hs, h0 => by
    have hK' := List.nodup_cons.1 hK
    have ha := hs a List.mem_cons_self
    rw [sum_erase g ha, List.map_cons, List.sum_cons]
    congr 1
    refine sum_sub g hK'.2 (hP.erase a) (fun x hx => ?_) (fun p hp hpK => ?_)
    · have hne : x ≠ a := fun e => hK'.1 (e ▸ hx)
      exact (List.mem_erase_of_ne hne).2 (hs x (List.mem_cons_of_mem _ hx))
    · have hmem := List.mem_of_mem_erase hp
      have hne : p ≠ a := fun e => by
        subst e
        exact (List.Nodup.not_mem_erase hP) hp
      exact h0 p hmem fun h => (List.mem_cons.1 h).elim hne hpK
theorem pairs_nodup (n : Nat) : (pairs n).Nodup := by
  unfold pairs
  rw [List.Nodup, List.pairwise_flatMap]
  refine ⟨fun i _ => ?_, ?_⟩
  · rw [List.pairwise_map]
    exact List.nodup_range.imp fun h e => h (Prod.mk.inj e).2
  · refine List.nodup_range.imp fun h x hx y hy e => ?_
    obtain ⟨_, _, rfl⟩ := List.mem_map.1 hx
    obtain ⟨_, _, rfl⟩ := List.mem_map.1 hy
    exact h (Prod.mk.inj e).1
/-- How many stand on all ways. -/
def wayLen {β : Type} (n : Nat) (q : Nat × Nat → List β) : Nat := ((pairs n).map fun p => (q p).length).sum
theorem way_sum {P : Program} {k : TypeId} {n m : Nat} {f : Nat × Nat → Value} {es : Array MapEntry} {c : Nat} (h : EMap P k (.slice none 0 0) keyQ (fun p => p.1 < n ∧ p.2 < n) m f es c) {len : Nat × Nat → Nat} (hl : ∀ p, lenV (f p) = len p) :
    (es.toList.map fun e => lenV e.val).sum = ((pairs n).map len).sum := by
  have key : ∀ l : List MapEntry, (∀ x, x ∈ l → x ∈ es.toList) → ∃ K : List (Nat × Nat), l.map (·.key) = K.map keyQ ∧ (l.map fun e => lenV e.val) = K.map len ∧ ∀ a, a ∈ K → a.1 < n ∧ a.2 < n := by
    intro l
    induction l with
    | nil => intro _; exact ⟨[], rfl, rfl, fun a ha => by simp at ha⟩
    | cons x l ih =>
      intro hs
      obtain ⟨K, h1, h2, h3⟩ := ih fun y hy => hs y (List.mem_cons_of_mem _ hy)
      have hx := hs x List.mem_cons_self
      obtain ⟨a, ha, hk⟩ := h.dom x hx
      refine ⟨a :: K, by rw [List.map_cons, List.map_cons, hk, h1], ?_, fun b hb => ?_⟩
      · rw [List.map_cons, List.map_cons, h2, ← hl a, h.val x hx a hk]
      · rcases List.mem_cons.1 hb with rfl | hb
        · exact ha
        · exact h3 b hb
  obtain ⟨K, h1, h2, h3⟩ := key es.toList fun x hx => hx
  have hnd := ((stamped_iff es c).1 h.stamped).2.2
  have hK : K.Nodup := by
    have hn : (K.map keyQ).Nodup := by
      rw [← h1, List.Nodup, List.pairwise_map]
      exact hnd
    rw [List.Nodup, List.pairwise_map] at hn
    exact hn.imp fun hne e => hne (by rw [e])
  rw [h2]
  refine sum_sub len hK (pairs_nodup n) (fun a ha => mem_pairs.2 (h3 a ha)) fun p hp hpK => ?_
  rw [← hl p, h.none_ p fun x hx hk => hpK ?_]
  · rfl
  · have : x.key ∈ es.toList.map (·.key) := List.mem_map.2 ⟨x, hx, rfl⟩
    rw [h1, hk, List.mem_map] at this
    obtain ⟨a, ha, he⟩ := this
    rwa [keyQ_inj _ _ he] at ha
theorem LayQ.turned {α : Type} {w0 w w' : World} {L : List LRow} {Q : List MRow} {e : α → TypeId} {f : α → Value} {q : α → List Value} {b r : Nat} {es : Array MapEntry} {clock : Nat} {seen : Array Nat} (h : LayQ w0 w L Q e f q) (hg : w.grownBy w' (some r)) (hr : Rng w b r es clock seen) (hr0 : w0.heap.size ≤ r) : LayQ w0 w' L Q e f q := by
  obtain ⟨c0, h1, _⟩ := hr.it
  refine ⟨h.lm.turned hg hr hr0, fun a => (h.own a).same fun g hga => ?_, h.ap, h.row⟩
  obtain ⟨_, hlt, cur, hc⟩ := (h.own a).has hga
  refine hg.block g hlt fun e1 => ?_
  injection e1 with e1
  subst e1
  rw [h1] at hc
  cases hc
theorem Rng.onCell {w0 w : World} {L : List LRow} {b r : Nat} {es : Array MapEntry} {clock : Nat} {seen : Array Nat} (h : Rng w b r es clock seen) (hl : Lay w0 w L) (k : Nat) {g : Nat} {ty : TypeId} {sz n cap : Nat} {F : Nat → Value} (hk : L[k]? = some ⟨some ⟨g, 0, none⟩, ty, sz, n, cap, F⟩) {j : Nat} {u : Value} : Rng (w.setCell ⟨g, j, none⟩ u) b r es clock seen := by
  have hc : ∃ cur, w.heap[g]? = some (.cells cur ty (0, 0)) := by
    rcases hl.own k _ hk with ⟨h1, _⟩ | ⟨g', cur, h1, _, h2, _⟩
    · cases h1
    · have h1 : some (⟨g, 0, none⟩ : Addr) = some ⟨g', 0, none⟩ := h1
      injection h1 with h1
      injection h1 with h1
      subst h1
      exact ⟨cur, h2⟩
  obtain ⟨cur, hc⟩ := hc
  obtain ⟨c0, h1, _⟩ := h.it
  refine h.kept (Below.heap_setCell _ _ _ _ fun e => ?_) (Below.heap_setCell _ _ _ _ fun e => ?_)
  · have e : b = g := e
    have := h.mp
    rw [e, hc] at this; cases this
  · have e : r = g := e
    rw [e, hc] at h1; cases h1
/-- The bits of those of whom p holds. -/
def wordP (p : Nat → Bool) : Nat → Nat
  | 0 => 0
  | i + 1 => if p i = true then wordP p i ||| 2 ^ i else wordP p i
theorem wordP_bit (p : Nat → Bool) : ∀ n j, (wordP p n).testBit j = (decide (j < n) && p j)
  | 0, j => by simp [wordP]
  | n + 1, j => by
    rw [wordP]
    by_cases e : j = n
    · subst e
      cases hp : p j
      · simp [wordP_bit p j j]
      · simp [Nat.testBit_or]
    · have : decide (j < n + 1) = decide (j < n) := by rw [decide_eq_decide]; omega
      rw [this]
      split
      · rw [Nat.testBit_or, wordP_bit p n j, Nat.testBit_two_pow]
        simp [Ne.symm e]
      · exact wordP_bit p n j
theorem wordP_lt (p : Nat → Bool) (n : Nat) : wordP p n < 2 ^ n := by
  refine Nat.lt_pow_two_of_testBit _ fun j hj => ?_
  rw [wordP_bit]
  simp; omega
end Go.Proofs.Ytihkbkbbllmliaa
