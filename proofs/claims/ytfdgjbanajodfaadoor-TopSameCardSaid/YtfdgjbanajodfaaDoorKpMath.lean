/- A keep, in plain functions; what holds at any time; the three laws, plain. -/
import Derived.Test.YtfdgjbanajodfaaDoorTrDds
set_option linter.unusedVariables false
set_option linter.unusedSimpArgs false
namespace Go.Proofs.YtfdgjbanajodfaaDoor
open Go.RowKit

structure StepX where
  kind : Int
  client : Int
  server : Int
  deed : Deed
structure KS where
  ap : Nat → Nat
  ord : Nat → Deed
  q : Nat
  at_ : Nat → Nat
  seen : Nat → Nat
def kset {α : Type} (f : Nat → α) (i : Nat) (v : α) : Nat → α := fun j => if j = i then v else f j
theorem kset_at {α : Type} (f : Nat → α) (i : Nat) (v : α) : kset f i v i = v := if_pos rfl
theorem kset_ne {α : Type} (f : Nat → α) {i j : Nat} (v : α) (h : j ≠ i) : kset f i v j = f j := if_neg h
def K0 : KS := ⟨fun _ => 0, fun _ => Dz, 0, fun _ => 0, fun _ => 0⟩
def treeAt (σ : KS) (s : Nat) : TS := runS T0 σ.ord (σ.ap s)
def lastA (D : Nat → Deed) (a b : Nat) : Ans := if a < b then ansS T0 D (b - 1) else A0 0
def readK (σ : KS) (c : Nat) (d : Deed) : Ans × KS := ((doS (treeAt σ (σ.at_ c)) d).1, { σ with seen := kset σ.seen c (σ.ap (σ.at_ c)) })
def addK (σ : KS) (d : Deed) : KS := { σ with ord := kset σ.ord σ.q d, q := σ.q + 1 }
def apK (σ : KS) (s m : Nat) : KS := { σ with ap := kset σ.ap s m }
def seenK (σ : KS) (c m : Nat) : KS := { σ with seen := kset σ.seen c m }
def writeK (σ : KS) (c : Nat) (d : Deed) : Ans × KS := (ansS T0 (addK σ d).ord σ.q, seenK (apK (addK σ d) (σ.at_ c) (σ.q + 1)) c (σ.q + 1))
def deedK (σ : KS) (c : Nat) (d : Deed) : Ans × KS := if d.kind = 4 ∨ d.kind = 5 then readK σ c d else writeK σ c d
def keepK (n : Nat) (σ : KS) (x : StepX) : Ans × KS :=
  if x.kind < 1 ∨ 4 < x.kind ∨ (x.kind = 1 ∧ (x.deed.kind < 1 ∨ 5 < x.deed.kind)) then (A0 6, σ)
  else if (x.kind ≠ 2 ∧ ¬ (0 ≤ x.client ∧ x.client < 6)) ∨ ((x.kind = 2 ∨ x.kind = 3) ∧ ¬ (0 ≤ x.server ∧ x.server < n)) then (A0 2, σ)
  else if x.kind = 1 then deedK σ x.client.toNat x.deed
  else if x.kind = 2 then (if σ.ap x.server.toNat = σ.q then (A0 5, σ) else (A0 0, apK σ x.server.toNat (σ.ap x.server.toNat + 1)))
  else if x.kind = 3 then (if σ.ap x.server.toNat < σ.seen x.client.toNat then (A0 8, σ) else (A0 0, { σ with at_ := kset σ.at_ x.client.toNat x.server.toNat }))
  else (A0 0, seenK (apK σ (σ.at_ x.client.toNat) σ.q) x.client.toNat σ.q)
def kst (n : Nat) (X : Nat → StepX) : Nat → KS
  | 0 => K0
  | j + 1 => (keepK n (kst n X j) (X j)).2
def kans (n : Nat) (X : Nat → StepX) (j : Nat) : Ans := (keepK n (kst n X j) (X j)).1
/-- What holds at any time. -/
structure KB (n k : Nat) (σ : KS) : Prop where
  ap : ∀ s, σ.ap s ≤ σ.q
  at_ : ∀ c, σ.at_ c < n
  seen : ∀ c, σ.seen c ≤ σ.q
  q : σ.q ≤ k
  dl : ∀ i, i < σ.q → DeedL (σ.ord i)
theorem kset_le {f : Nat → Nat} {i v m : Nat} (h : ∀ s, f s ≤ m) (hv : v ≤ m) : ∀ s, kset f i v s ≤ m := fun s => by
  unfold kset; split
  · exact hv
  · exact h s
theorem KB.zero {n : Nat} (hn : 1 ≤ n) : KB n 0 K0 := ⟨fun _ => Nat.le_refl _, fun _ => hn, fun _ => Nat.le_refl _, Nat.le_refl _, fun i hi => absurd hi (Nat.not_lt_zero i)⟩
theorem KB.up {n k : Nat} {σ : KS} (h : KB n k σ) : KB n (k + 1) σ := ⟨h.ap, h.at_, h.seen, Nat.le_succ_of_le h.q, h.dl⟩
theorem KB.apK {n k : Nat} {σ : KS} (h : KB n k σ) (s m : Nat) (hm : m ≤ σ.q) : KB n k (apK σ s m) := ⟨kset_le h.ap hm, h.at_, h.seen, h.q, h.dl⟩
theorem KB.seenK {n k : Nat} {σ : KS} (h : KB n k σ) (c m : Nat) (hm : m ≤ σ.q) : KB n k (seenK σ c m) := ⟨h.ap, h.at_, kset_le h.seen hm, h.q, h.dl⟩
theorem KB.addK {n k : Nat} {σ : KS} (h : KB n k σ) (d : Deed) (hd : DeedL d) : KB n (k + 1) (addK σ d) := by
  refine ⟨fun s => Nat.le_succ_of_le (h.ap s), h.at_, fun s => Nat.le_succ_of_le (h.seen s), Nat.succ_le_succ h.q, fun i hi => ?_⟩
  show DeedL (kset σ.ord σ.q d i)
  unfold kset
  split
  · exact hd
  · rename_i hne
    exact h.dl i (by have : i < σ.q + 1 := hi; omega)
theorem KB.next {n k : Nat} {σ : KS} (h : KB n k σ) (x : StepX) (hd : DeedL x.deed) : KB n (k + 1) (keepK n σ x).2 := by
  unfold keepK
  by_cases c1 : x.kind < 1 ∨ 4 < x.kind ∨ (x.kind = 1 ∧ (x.deed.kind < 1 ∨ 5 < x.deed.kind))
  · rw [if_pos c1]; exact h.up
  rw [if_neg c1]
  by_cases c2 : (x.kind ≠ 2 ∧ ¬ (0 ≤ x.client ∧ x.client < 6)) ∨ ((x.kind = 2 ∨ x.kind = 3) ∧ ¬ (0 ≤ x.server ∧ x.server < n))
  · rw [if_pos c2]; exact h.up
  rw [if_neg c2]
  by_cases c3 : x.kind = 1
  · rw [if_pos c3]
    unfold deedK
    split
    · exact (h.seenK _ _ (h.ap _)).up
    · exact ((h.addK _ hd).apK _ _ (Nat.le_refl _)).seenK _ _ (Nat.le_refl _)
  rw [if_neg c3]
  by_cases c4 : x.kind = 2
  · rw [if_pos c4]
    split
    · exact h.up
    · rename_i hne
      exact (h.apK _ _ (by have := h.ap x.server.toNat; omega)).up
  rw [if_neg c4]
  by_cases c5 : x.kind = 3
  · rw [if_pos c5]
    split
    · exact h.up
    · refine KB.up ⟨h.ap, fun c => ?_, h.seen, h.q, h.dl⟩
      show kset σ.at_ _ _ c < n
      unfold kset
      split
      · have : 0 ≤ x.server ∧ x.server < n := Classical.byContradiction fun hh => c2 (.inr ⟨.inr c5, hh⟩)
        omega
      · exact h.at_ c
  rw [if_neg c5]
  exact ((h.apK _ _ (Nat.le_refl _)).seenK _ _ (Nat.le_refl _)).up
theorem kst_ok {n : Nat} (hn : 1 ≤ n) (X : Nat → StepX) : ∀ j, (∀ i, i < j → DeedL (X i).deed) → KB n j (kst n X j)
  | 0, _ => KB.zero hn
  | j + 1, h => (kst_ok hn X j fun i hi => h i (by omega)).next _ (h j (by omega))
/-- Scripts behind one another. -/
def Sz : StepX := ⟨0, 0, 0, Dz⟩
def appX (X : Nat → StepX) (q : Nat) (N : Nat → StepX) (j : Nat) : StepX := if j < q then X j else N (j - q)
theorem appX_zero (E X : Nat → StepX) : appX E 0 X = X := by
  funext j
  unfold appX
  rw [if_neg (by omega), Nat.sub_zero]
theorem appX_old (X : Nat → StepX) (q : Nat) (N : Nat → StepX) {j : Nat} (h : j < q) : appX X q N j = X j := if_pos h
theorem appX_new (X : Nat → StepX) (q : Nat) (N : Nat → StepX) (j : Nat) : appX X q N (q + j) = N j := by
  unfold appX
  rw [if_neg (by omega), Nat.add_sub_cancel_left]
theorem kst_congr {n : Nat} {X Y : Nat → StepX} : ∀ j, (∀ i, i < j → X i = Y i) → kst n X j = kst n Y j
  | 0, _ => rfl
  | j + 1, h => by
    show (keepK n (kst n X j) (X j)).2 = (keepK n (kst n Y j) (Y j)).2
    rw [kst_congr j fun i hi => h i (by omega), h j (by omega)]
def krun (n : Nat) (σ : KS) (N : Nat → StepX) : Nat → KS
  | 0 => σ
  | j + 1 => (keepK n (krun n σ N j) (N j)).2
theorem kst_app (n : Nat) (X N : Nat → StepX) (q : Nat) : ∀ k, kst n (appX X q N) (q + k) = krun n (kst n X q) N k
  | 0 => kst_congr q fun i hi => appX_old X q N hi
  | k + 1 => by
    show (keepK n (kst n (appX X q N) (q + k)) (appX X q N (q + k))).2 = (keepK n (krun n (kst n X q) N k) (N k)).2
    rw [kst_app n X N q k, appX_new]
theorem kans_app (n : Nat) (X N : Nat → StepX) (q k : Nat) : kans n (appX X q N) (q + k) = (keepK n (krun n (kst n X q) N k) (N k)).1 := by
  show (keepK n (kst n (appX X q N) (q + k)) (appX X q N (q + k))).1 = _
  rw [kst_app, appX_new]
theorem krun_ok {n k : Nat} {σ : KS} (h : KB n k σ) (N : Nat → StepX) : ∀ j, (∀ i, i < j → DeedL (N i).deed) → KB n (k + j) (krun n σ N j)
  | 0, _ => h
  | j + 1, hd => (krun_ok h N j fun i hi => hd i (by omega)).next _ (hd j (by omega))
/-- The forms of single steps. -/
theorem keep_deed {n : Nat} {σ : KS} {c s : Int} {d : Deed} (hc : 0 ≤ c ∧ c < 6) (hd : 1 ≤ d.kind ∧ d.kind ≤ 5) : keepK n σ ⟨1, c, s, d⟩ = deedK σ c.toNat d := by
  unfold keepK
  rw [if_neg (by show ¬ ((1 : Int) < 1 ∨ (4 : Int) < 1 ∨ ((1 : Int) = 1 ∧ (d.kind < 1 ∨ 5 < d.kind))); omega), if_neg (by show ¬ (((1 : Int) ≠ 2 ∧ ¬ (0 ≤ c ∧ c < 6)) ∨ (((1 : Int) = 2 ∨ (1 : Int) = 3) ∧ ¬ (0 ≤ s ∧ s < n))); omega), if_pos rfl]
theorem keep_noc {n : Nat} {σ : KS} {k c s : Int} {d : Deed} (hk : k = 1 ∨ k = 3 ∨ k = 4) (hc : ¬ (0 ≤ c ∧ c < 6)) (hd : k = 1 → 1 ≤ d.kind ∧ d.kind ≤ 5) : keepK n σ ⟨k, c, s, d⟩ = (A0 2, σ) := by
  unfold keepK
  rw [if_neg (by show ¬ (k < 1 ∨ 4 < k ∨ (k = 1 ∧ (d.kind < 1 ∨ 5 < d.kind))); rcases hk with h | h | h <;> omega), if_pos (by show (k ≠ 2 ∧ ¬ (0 ≤ c ∧ c < 6)) ∨ _; exact .inl ⟨by omega, hc⟩)]
theorem keep_apply {n : Nat} {σ : KS} {c s : Int} {d : Deed} (hs : 0 ≤ s ∧ s < n) : keepK n σ ⟨2, c, s, d⟩ = if σ.ap s.toNat = σ.q then (A0 5, σ) else (A0 0, apK σ s.toNat (σ.ap s.toNat + 1)) := by
  unfold keepK
  rw [if_neg (by show ¬ ((2 : Int) < 1 ∨ (4 : Int) < 2 ∨ ((2 : Int) = 1 ∧ (d.kind < 1 ∨ 5 < d.kind))); omega), if_neg (by show ¬ (((2 : Int) ≠ 2 ∧ ¬ (0 ≤ c ∧ c < 6)) ∨ (((2 : Int) = 2 ∨ (2 : Int) = 3) ∧ ¬ (0 ≤ s ∧ s < n))); omega), if_neg (by show ¬ (2 : Int) = 1; decide), if_pos rfl]
theorem keep_move {n : Nat} {σ : KS} {c s : Int} {d : Deed} (hc : 0 ≤ c ∧ c < 6) (hs : 0 ≤ s ∧ s < n) : keepK n σ ⟨3, c, s, d⟩ = if σ.ap s.toNat < σ.seen c.toNat then (A0 8, σ) else (A0 0, { σ with at_ := kset σ.at_ c.toNat s.toNat }) := by
  unfold keepK
  rw [if_neg (by show ¬ ((3 : Int) < 1 ∨ (4 : Int) < 3 ∨ ((3 : Int) = 1 ∧ (d.kind < 1 ∨ 5 < d.kind))); omega), if_neg (by show ¬ (((3 : Int) ≠ 2 ∧ ¬ (0 ≤ c ∧ c < 6)) ∨ (((3 : Int) = 2 ∨ (3 : Int) = 3) ∧ ¬ (0 ≤ s ∧ s < n))); omega), if_neg (by show ¬ (3 : Int) = 1; decide), if_neg (by show ¬ (3 : Int) = 2; decide), if_pos rfl]
theorem keep_nos {n : Nat} {σ : KS} {c s : Int} {d : Deed} (hs : ¬ (0 ≤ s ∧ s < n)) : keepK n σ ⟨3, c, s, d⟩ = (A0 2, σ) := by
  unfold keepK
  rw [if_neg (by show ¬ ((3 : Int) < 1 ∨ (4 : Int) < 3 ∨ ((3 : Int) = 1 ∧ (d.kind < 1 ∨ 5 < d.kind))); omega), if_pos (.inr ⟨.inr rfl, hs⟩)]
theorem keep_sync {n : Nat} {σ : KS} {c s : Int} {d : Deed} (hc : 0 ≤ c ∧ c < 6) : keepK n σ ⟨4, c, s, d⟩ = (A0 0, seenK (apK σ (σ.at_ c.toNat) σ.q) c.toNat σ.q) := by
  unfold keepK
  rw [if_neg (by show ¬ ((4 : Int) < 1 ∨ (4 : Int) < 4 ∨ ((4 : Int) = 1 ∧ (d.kind < 1 ∨ 5 < d.kind))); omega), if_neg (by show ¬ (((4 : Int) ≠ 2 ∧ ¬ (0 ≤ c ∧ c < 6)) ∨ (((4 : Int) = 2 ∨ (4 : Int) = 3) ∧ ¬ (0 ≤ s ∧ s < n))); omega), if_neg (by show ¬ (4 : Int) = 1; decide), if_neg (by show ¬ (4 : Int) = 2; decide), if_neg (by show ¬ (4 : Int) = 3; decide)]
/-- A name made, or there already, is there behind it. -/
theorem make_in {st : TS} {p : Str} (h : (doS st ⟨1, p, [], 0⟩).1.code = 0 ∨ (doS st ⟨1, p, [], 0⟩).1.code = 7) : nameB p = true ∧ p ∈ (doS st ⟨1, p, [], 0⟩).2.ks := by
  have e : doS st ⟨1, p, [], 0⟩ = if nameB p = false then (A0 3, st) else (A0 (buildS st ⟨1, p, [], 0⟩).1, (buildS st ⟨1, p, [], 0⟩).2) := by
    unfold doS
    rw [if_neg (by show ¬ ((1 : Int) < 1 ∨ (5 : Int) < 1); decide)]
    show (if nameB p = false then _ else _) = _
    by_cases h1 : nameB p = false
    · rw [if_pos h1, if_pos h1]
    rw [if_neg h1, if_neg h1, if_neg (fun h => absurd h.2 (show ¬ 20 < ([] : Str).length by decide)), if_pos rfl]
  rw [e] at h ⊢
  by_cases h1 : nameB p = false
  · rw [if_pos h1] at h
    exact absurd h (show ¬ ((3 : Int) = 0 ∨ (3 : Int) = 7) by decide)
  rw [if_neg h1] at h ⊢
  refine ⟨by simpa using h1, ?_⟩
  have e2 : buildS st ⟨1, p, [], 0⟩ = if p ∈ st.ks then (7, st) else if parL p ∉ st.ks then (5, st) else if 12 ≤ st.ks.length then (1, st) else (0, putS st p [] 0) := rfl
  have h : (buildS st ⟨1, p, [], 0⟩).1 = 0 ∨ (buildS st ⟨1, p, [], 0⟩).1 = 7 := h
  show p ∈ (buildS st ⟨1, p, [], 0⟩).2.ks
  rw [e2] at h ⊢
  by_cases h2 : p ∈ st.ks
  · rw [if_pos h2]; exact h2
  rw [if_neg h2] at h ⊢
  by_cases h3 : parL p ∉ st.ks
  · rw [if_pos h3] at h; exact absurd h (show ¬ ((5 : Int) = 0 ∨ (5 : Int) = 7) by decide)
  rw [if_neg h3] at h ⊢
  by_cases h4 : 12 ≤ st.ks.length
  · rw [if_pos h4] at h; exact absurd h (show ¬ ((1 : Int) = 0 ∨ (1 : Int) = 7) by decide)
  rw [if_neg h4]
  show p ∈ (if p ∈ st.ks then st.ks else st.ks ++ [p])
  rw [if_neg h2]; simp
theorem get_in {st : TS} {p : Str} (hn : nameB p = true) (h : p ∈ st.ks) : (doS st ⟨4, p, [], 0⟩).1.code = 0 := by
  unfold doS
  rw [if_neg (by show ¬ ((4 : Int) < 1 ∨ (5 : Int) < 4); decide), if_neg (by show ¬ nameB p = false; rw [hn]; decide), if_neg (fun h => h.1.elim (fun h => absurd h (show ¬ (4 : Int) = 1 by decide)) (fun h => absurd h (show ¬ (4 : Int) = 2 by decide))),
    if_neg (by show ¬ (4 : Int) = 1; decide), if_neg (fun h => absurd h.1 (by show ¬ (4 : Int) = 3; decide)), if_neg (not_not_intro h), if_pos rfl]
/-- A client sees its own. -/
theorem ownLaw {n k : Nat} {σ : KS} (h : KB n k σ) (c to : Int) (p : Str) (hp : p.length ≤ 140737488351232) :
    ((keepK n σ ⟨1, c, 0, ⟨1, p, [], 0⟩⟩).1.code ≠ 0 ∧ (keepK n σ ⟨1, c, 0, ⟨1, p, [], 0⟩⟩).1.code ≠ 7) ∨ (keepK n (keepK n (keepK n σ ⟨1, c, 0, ⟨1, p, [], 0⟩⟩).2 ⟨3, c, to, Dz⟩).2 ⟨1, c, 0, ⟨4, p, [], 0⟩⟩).1.code = 0 := by
  by_cases hc : 0 ≤ c ∧ c < 6
  · rw [keep_deed hc (by show (1 : Int) ≤ 1 ∧ (1 : Int) ≤ 5; decide)]
    have ew : deedK σ c.toNat ⟨1, p, [], 0⟩ = writeK σ c.toNat ⟨1, p, [], 0⟩ := by
      unfold deedK
      rw [if_neg (by show ¬ ((1 : Int) = 4 ∨ (1 : Int) = 5); decide)]
    rw [ew]
    by_cases hcode : (writeK σ c.toNat ⟨1, p, [], 0⟩).1.code = 0 ∨ (writeK σ c.toNat ⟨1, p, [], 0⟩).1.code = 7
    · right
      have ea : ansS T0 (addK σ ⟨1, p, [], 0⟩).ord σ.q = (doS (runS T0 (addK σ ⟨1, p, [], 0⟩).ord σ.q) ⟨1, p, [], 0⟩).1 := by
        show (doS _ ((kset σ.ord σ.q ⟨1, p, [], 0⟩) σ.q)).1 = _
        rw [kset_at]
      have hcode' : (ansS T0 (addK σ ⟨1, p, [], 0⟩).ord σ.q).code = 0 ∨ (ansS T0 (addK σ ⟨1, p, [], 0⟩).ord σ.q).code = 7 := hcode
      rw [ea] at hcode'
      obtain ⟨hn, hin⟩ := make_in hcode'
      have hrun : p ∈ (runS T0 (addK σ ⟨1, p, [], 0⟩).ord (σ.q + 1)).ks := by
        show p ∈ (doS _ ((kset σ.ord σ.q ⟨1, p, [], 0⟩) σ.q)).2.ks
        rw [kset_at]; exact hin
      obtain ⟨σ1, hσ⟩ : ∃ σ1, (writeK σ c.toNat ⟨1, p, [], 0⟩).2 = σ1 := ⟨_, rfl⟩
      have e1 : σ1.ord = (addK σ ⟨1, p, [], 0⟩).ord := by rw [← hσ]; rfl
      have e2 : σ1.q = σ.q + 1 := by rw [← hσ]; rfl
      have e3 : σ1.at_ = σ.at_ := by rw [← hσ]; rfl
      have e4 : σ1.ap (σ1.at_ c.toNat) = σ.q + 1 := by rw [e3, ← hσ]; exact kset_at _ _ _
      have e5 : σ1.seen c.toNat = σ.q + 1 := by rw [← hσ]; exact kset_at _ _ _
      have hB : ∀ s, σ1.ap s ≤ σ.q + 1 := by
        have := (((h.addK ⟨1, p, [], 0⟩ ⟨hp, Nat.zero_le _⟩).apK (σ.at_ c.toNat) (σ.q + 1) (Nat.le_refl _)).seenK c.toNat (σ.q + 1) (Nat.le_refl _)).ap
        rw [← hσ]; exact this
      rw [hσ]
      have fin : ∀ σ2 : KS, σ2.ord = σ1.ord → σ2.ap (σ2.at_ c.toNat) = σ.q + 1 → (keepK n σ2 ⟨1, c, 0, ⟨4, p, [], 0⟩⟩).1.code = 0 := by
        intro σ2 h1 h2
        rw [keep_deed hc (by show (1 : Int) ≤ 4 ∧ (4 : Int) ≤ 5; decide)]
        unfold deedK
        rw [if_pos (.inl rfl)]
        refine get_in hn ?_
        show p ∈ (runS T0 σ2.ord (σ2.ap (σ2.at_ c.toNat))).ks
        rw [h1, h2, e1]; exact hrun
      by_cases ht : 0 ≤ to ∧ to < n
      · rw [keep_move hc ht]
        by_cases hlt : σ1.ap to.toNat < σ1.seen c.toNat
        · rw [if_pos hlt]; exact fin σ1 rfl e4
        · rw [if_neg hlt]
          refine fin _ rfl ?_
          show σ1.ap (kset σ1.at_ c.toNat to.toNat c.toNat) = _
          rw [kset_at]
          have := hB to.toNat
          omega
      · rw [keep_nos ht]; exact fin σ1 rfl e4
    · left
      exact ⟨fun e => hcode (.inl e), fun e => hcode (.inr e)⟩
  · left
    rw [keep_noc (.inl rfl) hc (fun _ => by show (1 : Int) ≤ 1 ∧ (1 : Int) ≤ 5; decide)]
    exact ⟨by show (2 : Int) ≠ 0; decide, by show (2 : Int) ≠ 7; decide⟩
/-- How many of a script's steps write. -/
def wrB (x : StepX) : Bool := decide (x.kind = 1) && decide (0 ≤ x.client ∧ x.client < 6) && decide (1 ≤ x.deed.kind ∧ x.deed.kind ≤ 3)
def cntW (X : Nat → StepX) : Nat → Nat
  | 0 => 0
  | j + 1 => cntW X j + (wrB (X j)).toNat
theorem keep_q (n : Nat) (σ : KS) (x : StepX) : (keepK n σ x).2.q = σ.q + (wrB x).toNat := by
  obtain ⟨k, c, s, d⟩ := x
  by_cases h1 : k = 1 ∧ (0 ≤ c ∧ c < 6) ∧ 1 ≤ d.kind ∧ d.kind ≤ 5
  · obtain ⟨rfl, hc, hd⟩ := h1
    rw [keep_deed hc hd]
    unfold deedK
    by_cases hk : d.kind = 4 ∨ d.kind = 5
    · rw [if_pos hk]
      have : wrB ⟨1, c, s, d⟩ = false := by
        have e : decide (1 ≤ d.kind ∧ d.kind ≤ 3) = false := by simp; omega
        show (_ && _ && decide (1 ≤ d.kind ∧ d.kind ≤ 3)) = false
        rw [e, Bool.and_false]
      rw [this]; rfl
    · rw [if_neg hk]
      have : wrB ⟨1, c, s, d⟩ = true := by
        show (decide ((1 : Int) = 1) && decide (0 ≤ c ∧ c < 6) && decide (1 ≤ d.kind ∧ d.kind ≤ 3)) = true
        simp; omega
      rw [this]; rfl
  · have hw : wrB ⟨k, c, s, d⟩ = false := by
      by_cases a1 : k = 1
      · by_cases a2 : 0 ≤ c ∧ c < 6
        · have e : decide (1 ≤ d.kind ∧ d.kind ≤ 3) = false := by simp; omega
          show (_ && _ && decide (1 ≤ d.kind ∧ d.kind ≤ 3)) = false
          rw [e, Bool.and_false]
        · show (_ && decide (0 ≤ c ∧ c < 6) && _) = false
          rw [decide_eq_false a2, Bool.and_false, Bool.false_and]
      · show (decide (k = 1) && _ && _) = false
        rw [decide_eq_false a1, Bool.false_and, Bool.false_and]
    rw [hw]
    unfold keepK
    by_cases c1 : k < 1 ∨ 4 < k ∨ (k = 1 ∧ (d.kind < 1 ∨ 5 < d.kind))
    · rw [if_pos c1]; rfl
    rw [if_neg c1]
    by_cases c2 : (k ≠ 2 ∧ ¬ (0 ≤ c ∧ c < 6)) ∨ ((k = 2 ∨ k = 3) ∧ ¬ (0 ≤ s ∧ s < n))
    · rw [if_pos c2]; rfl
    rw [if_neg c2]
    by_cases c3 : k = 1
    · exact absurd (show k = 1 ∧ (0 ≤ c ∧ c < 6) ∧ 1 ≤ d.kind ∧ d.kind ≤ 5 by omega) h1
    rw [if_neg c3]
    by_cases c4 : k = 2
    · rw [if_pos c4]; dsimp only; split <;> rfl
    rw [if_neg c4]
    by_cases c5 : k = 3
    · rw [if_pos c5]; dsimp only; split <;> rfl
    rw [if_neg c5]; rfl
theorem kst_q (n : Nat) (X : Nat → StepX) : ∀ j, (kst n X j).q = cntW X j
  | 0 => rfl
  | j + 1 => by
    show (keepK n (kst n X j) (X j)).2.q = _
    rw [keep_q, kst_q n X j]; rfl
/-- Behind enough of its applies a server has all; nothing else has turned. -/
structure AppAll (σ τ : KS) (a : Nat) : Prop where
  ord : τ.ord = σ.ord
  q : τ.q = σ.q
  at_ : τ.at_ = σ.at_
  seen : τ.seen = σ.seen
  all : τ.ap a = σ.q
  oth : ∀ s, σ.ap s ≤ σ.q → σ.ap s ≤ τ.ap s ∧ τ.ap s ≤ σ.q
theorem applies {n : Nat} {a : Int} (ha : 0 ≤ a ∧ a < n) (N : Nat → StepX) : ∀ (j : Nat) (σ : KS), (∀ i, i < j → N i = ⟨2, 0, a, Dz⟩) → (∀ s, σ.ap s ≤ σ.q) →
    (krun n σ N j).ord = σ.ord ∧ (krun n σ N j).q = σ.q ∧ (krun n σ N j).at_ = σ.at_ ∧ (krun n σ N j).seen = σ.seen ∧ (∀ s, (krun n σ N j).ap s ≤ σ.q ∧ σ.ap s ≤ (krun n σ N j).ap s) ∧ min σ.q (σ.ap a.toNat + j) ≤ (krun n σ N j).ap a.toNat
  | 0, σ, _, h => ⟨rfl, rfl, rfl, rfl, fun s => ⟨h s, Nat.le_refl _⟩, by show min σ.q (σ.ap a.toNat + 0) ≤ σ.ap a.toNat; omega⟩
  | j + 1, σ, hN, h => by
    obtain ⟨h1, h2, h3, h4, h5, h6⟩ := applies ha N j σ (fun i hi => hN i (by omega)) h
    have e : krun n σ N (j + 1) = (keepK n (krun n σ N j) ⟨2, 0, a, Dz⟩).2 := by
      show (keepK n (krun n σ N j) (N j)).2 = _
      rw [hN j (by omega)]
    rw [e, keep_apply ha]
    generalize krun n σ N j = τ at *
    by_cases hq : τ.ap a.toNat = τ.q
    · rw [if_pos hq]
      exact ⟨h1, h2, h3, h4, h5, by show min σ.q (σ.ap a.toNat + (j + 1)) ≤ τ.ap a.toNat; omega⟩
    · rw [if_neg hq]
      have hlt : τ.ap a.toNat < σ.q := by have := (h5 a.toNat).1; omega
      refine ⟨h1, h2, h3, h4, fun s => ?_, ?_⟩
      · show kset τ.ap _ _ s ≤ _ ∧ _ ≤ kset τ.ap _ _ s
        unfold kset
        split
        · rename_i hs; subst hs; have := h5 a.toNat; omega
        · exact h5 s
      · show _ ≤ kset τ.ap _ _ a.toNat
        rw [kset_at]; omega
/-- Where all have all, all answer alike. -/
theorem sameLaw {n k : Nat} {σ : KS} (h : KB n k σ) (hk : σ.q ≤ 12) {a b c : Int} (ha : 0 ≤ a ∧ a < n) (hb : 0 ≤ b ∧ b < n) (hc : 0 ≤ c ∧ c < 6) (d : Deed) (hd : d.kind = 4 ∨ d.kind = 5) (N : Nat → StepX)
    (h1 : ∀ i, i < 12 → N i = ⟨2, 0, a, Dz⟩) (h2 : ∀ i, i < 12 → N (12 + i) = ⟨2, 0, b, Dz⟩) (h3 : N 24 = ⟨3, c, a, Dz⟩) (h4 : N 25 = ⟨1, c, 0, d⟩) (h5 : N 26 = ⟨3, c, b, Dz⟩) (h6 : N 27 = ⟨1, c, 0, d⟩) :
    (keepK n (krun n σ N 24) (N 24)).1.code = 0 ∧ (keepK n (krun n σ N 26) (N 26)).1.code = 0 ∧ (keepK n (krun n σ N 25) (N 25)).1 = (keepK n (krun n σ N 27) (N 27)).1 := by
  obtain ⟨a1, a2, a3, a4, a5, a6⟩ := applies ha N 12 σ h1 h.ap
  have eN : ∀ j, krun n σ N (12 + j) = krun n (krun n σ N 12) (fun i => N (12 + i)) j := by
    intro j
    induction j with
    | zero => rfl
    | succ j ih =>
      show (keepK n (krun n σ N (12 + j)) (N (12 + j))).2 = (keepK n (krun n (krun n σ N 12) (fun i => N (12 + i)) j) (N (12 + j))).2
      rw [ih]
  obtain ⟨b1, b2, b3, b4, b5, b6⟩ := applies hb (fun i => N (12 + i)) 12 (krun n σ N 12) h2 (fun s => by rw [a2]; exact (a5 s).1)
  have e24 : krun n σ N 24 = krun n (krun n σ N 12) (fun i => N (12 + i)) 12 := eN 12
  rw [← e24] at b1 b2 b3 b4 b5 b6
  obtain ⟨τ, hτ⟩ : ∃ τ, krun n σ N 24 = τ := ⟨_, rfl⟩
  rw [hτ] at b1 b2 b3 b4 b5 b6
  have tq : τ.q = σ.q := by rw [b2, a2]
  have ta : τ.ap a.toNat = σ.q := by have := b5 a.toNat; have := a5 a.toNat; omega
  have tb : τ.ap b.toNat = σ.q := by have := b5 b.toNat; have := a5 b.toNat; omega
  have ts : τ.seen c.toNat ≤ σ.q := by rw [b4, a4]; exact h.seen _
  have e25 : krun n σ N 25 = (keepK n τ ⟨3, c, a, Dz⟩).2 := by show (keepK n (krun n σ N 24) (N 24)).2 = _; rw [hτ, h3]
  have m1 : keepK n τ ⟨3, c, a, Dz⟩ = (A0 0, { τ with at_ := kset τ.at_ c.toNat a.toNat }) := by
    rw [keep_move hc ha, if_neg (by omega)]
  have hd5 : 1 ≤ d.kind ∧ d.kind ≤ 5 := by omega
  have e26 : krun n σ N 26 = (keepK n (krun n σ N 25) ⟨1, c, 0, d⟩).2 := by show (keepK n (krun n σ N 25) (N 25)).2 = _; rw [h4]
  rw [m1] at e25
  have m2 : keepK n (krun n σ N 25) ⟨1, c, 0, d⟩ = ((doS (runS T0 τ.ord σ.q) d).1, { τ with at_ := kset τ.at_ c.toNat a.toNat, seen := kset τ.seen c.toNat σ.q }) := by
    rw [e25, keep_deed hc hd5]
    unfold deedK
    rw [if_pos hd]
    have e : (kset τ.at_ c.toNat a.toNat) c.toNat = a.toNat := kset_at _ _ _
    show ((doS (runS T0 τ.ord (τ.ap ((kset τ.at_ c.toNat a.toNat) c.toNat))) d).1, ({ τ with at_ := kset τ.at_ c.toNat a.toNat, seen := kset τ.seen c.toNat (τ.ap ((kset τ.at_ c.toNat a.toNat) c.toNat)) } : KS)) = _
    rw [e, ta]
  rw [m2] at e26
  have e27 : krun n σ N 27 = (keepK n (krun n σ N 26) ⟨3, c, b, Dz⟩).2 := by show (keepK n (krun n σ N 26) (N 26)).2 = _; rw [h5]
  have m3 : keepK n (krun n σ N 26) ⟨3, c, b, Dz⟩ = (A0 0, { τ with at_ := kset (kset τ.at_ c.toNat a.toNat) c.toNat b.toNat, seen := kset τ.seen c.toNat σ.q }) := by
    rw [e26, keep_move hc hb]
    have : ¬ τ.ap b.toNat < kset τ.seen c.toNat σ.q c.toNat := by rw [kset_at]; omega
    rw [if_neg this]
  rw [m3] at e27
  have m4 : (keepK n (krun n σ N 27) ⟨1, c, 0, d⟩).1 = (doS (runS T0 τ.ord σ.q) d).1 := by
    rw [e27, keep_deed hc hd5]
    unfold deedK
    rw [if_pos hd]
    show (doS (runS T0 τ.ord (τ.ap ((kset (kset τ.at_ c.toNat a.toNat) c.toNat b.toNat) c.toNat))) d).1 = _
    rw [kset_at, tb]
  refine ⟨?_, ?_, ?_⟩
  · rw [hτ, h3, m1]; rfl
  · rw [h5, m3]; rfl
  · rw [h4, h6, m2, m4]
end Go.Proofs.YtfdgjbanajodfaaDoor
