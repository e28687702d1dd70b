/- What watch.Play answers, as the laws read it. -/
import Derived.Test.YtfdgjbanajodfaaDoorWaMath
import Derived.Test.YtfdgjbanajodfaaDoorTrApp
import Derived.Test.YtfdgjbanajodfaaDoorWa4
import Derived.Test.YtfdgjbanajodfaaDoorTrTell
set_option linter.unusedVariables false
set_option linter.unusedSimpArgs false
namespace Go.Proofs.YtfdgjbanajodfaaDoor
open Go.RowKit

/-! notes are bounded by watches -/
def ofW (who : Nat) (p : WKey) : Bool := decide (p.1 = who)
def cntW (who : Nat) (l : List WKey) : Nat := l.countP (ofW who)
theorem cnt_erase_le (who : Nat) (l : List WKey) (k : WKey) : cntW who (l.erase k) ≤ cntW who l := (List.erase_sublist ..).countP_le
theorem cnt_erase (who : Nat) {l : List WKey} {k : WKey} (h : k ∈ l) (hk : k.1 = who) : cntW who (l.erase k) + 1 = cntW who l := by
  have hp := (List.perm_cons_erase h).countP_eq (ofW who)
  unfold cntW
  rw [hp, List.countP_cons_of_pos (by unfold ofW; simp [hk])]
theorem fire_le (who : Nat) : ∀ (ks l : List WKey) (f : Bool), cntW who (fireW f l ks).2 ≤ cntW who l
  | [], _, _ => Nat.le_refl _
  | k :: ks, l, _ => Nat.le_trans (fire_le who ks (l.erase k) _) (cnt_erase_le who l k)
theorem fire_cnt (who : Nat) : ∀ (ks l : List WKey) (f : Bool), (∀ k ∈ ks, k.1 = who) → cntW who (fireW f l ks).2 + (if (fireW f l ks).1 = true then 1 else 0) ≤ cntW who l + (if f = true then 1 else 0)
  | [], _, _, _ => Nat.le_refl _
  | k :: ks, l, f, h => by
    have h1 := fire_cnt who ks (l.erase k) (f || decide (k ∈ l)) fun k hk => h k (List.mem_cons_of_mem _ hk)
    refine Nat.le_trans h1 ?_
    by_cases hm : k ∈ l
    · have := cnt_erase who hm (h k List.mem_cons_self)
      simp only [hm, decide_true, Bool.or_true, if_true]
      omega
    · rw [List.erase_of_not_mem hm]
      simp [hm]
theorem keysW_who (d : Deed) (i : Nat) : ∀ k ∈ keysW d i, k.1 = i := by
  unfold keysW
  intro k hk
  split at hk
  · simp at hk; rw [hk]
  split at hk
  · simp at hk; rw [hk]
  split at hk
  · simp at hk; rcases hk with rfl | rfl | rfl <;> rfl
  · cases hk
def measW (who : Nat) (σ : WS) : Nat := (σ.nt who).length + cntW who σ.ws
theorem meas_tell1 (who : Nat) (d : Deed) (i : Nat) (σ : WS) : measW who (tell1 d i σ) ≤ measW who σ := by
  unfold measW
  rw [tell1_nt]
  show _ + cntW who (fireW false σ.ws (keysW d i)).2 ≤ _
  by_cases e : who = i
  · subst e
    have h := fire_cnt who (keysW d who) σ.ws false (keysW_who d who)
    by_cases hf : (fireW false σ.ws (keysW d who)).1 = true
    · rw [if_pos ⟨rfl, hf⟩, List.length_append]
      simp only [hf, if_true] at h
      simp at h ⊢
      omega
    · rw [if_neg (fun h => hf h.2)]
      have := fire_le who (keysW d who) σ.ws false
      omega
  · rw [if_neg (fun h => e h.1)]
    have := fire_le who (keysW d i) σ.ws false
    omega
theorem meas_tell (who : Nat) (d : Deed) (σ : WS) : ∀ n, measW who (tellN d σ n) ≤ measW who σ
  | 0 => Nat.le_refl _
  | n + 1 => Nat.le_trans (meas_tell1 who d n _) (meas_tell who d σ n)
theorem meas_watch (who : Nat) (σ : WS) (x : AskX) : measW who (watchW σ x) ≤ measW who σ + (if x.who.toNat = who ∧ x.watch = true ∧ 4 ≤ x.deed.kind then 1 else 0) := by
  unfold watchW
  by_cases hc : x.watch = true ∧ 4 ≤ x.deed.kind
  · rw [if_pos hc]
    show (σ.nt who).length + cntW who (addW σ.ws _) ≤ (σ.nt who).length + cntW who σ.ws + _
    unfold addW
    by_cases hm : (x.who.toNat, x.deed.kind.toNat, x.deed.path) ∈ σ.ws
    · rw [if_pos hm]; omega
    · rw [if_neg hm]
      unfold cntW
      rw [List.countP_append]
      by_cases e : x.who.toNat = who
      · rw [if_pos ⟨e, hc⟩]
        have : List.countP (ofW who) [(x.who.toNat, x.deed.kind.toNat, x.deed.path)] ≤ 1 := List.countP_le_length
        omega
      · rw [if_neg (fun h => e h.1)]
        have : List.countP (ofW who) [(x.who.toNat, x.deed.kind.toNat, x.deed.path)] = 0 := by simp [ofW, e]
        omega
  · rw [if_neg hc]; omega
/-- How many watches a session has set. -/
def setN (X : Nat → AskX) (who : Int) : Nat → Nat
  | 0 => 0
  | j + 1 => if (X j).who = who ∧ (X j).watch = true ∧ (wans X j).code = 0 ∧ 4 ≤ (X j).deed.kind then setN X who j + 1 else setN X who j
theorem meas_ask (who : Int) (hw : 0 ≤ who) (σ : WS) (x : AskX) : measW who.toNat (askW σ x).2 ≤ measW who.toNat σ + (if x.who = who ∧ x.watch = true ∧ (askW σ x).1.code = 0 ∧ 4 ≤ x.deed.kind then 1 else 0) := by
  by_cases hx : 0 ≤ x.who ∧ x.who < 6
  · by_cases hc : (doS σ.st x.deed).1.code = 0
    · rw [ask_ok hx hc]
      refine Nat.le_trans (meas_watch _ _ _) ?_
      refine Nat.add_le_add (meas_tell who.toNat x.deed ⟨(doS σ.st x.deed).2, σ.ws, σ.nt⟩ 6) ?_
      by_cases h1 : x.who.toNat = who.toNat ∧ x.watch = true ∧ 4 ≤ x.deed.kind
      · rw [if_pos h1, if_pos ⟨by omega, h1.2.1, hc, h1.2.2⟩]
        exact Nat.le_refl _
      · rw [if_neg h1]; exact Nat.zero_le _
    · rw [ask_err hx hc]
      exact Nat.le_add_right _ _
  · rw [ask_bad hx]
    exact Nat.le_add_right _ _
theorem meas_le (X : Nat → AskX) (who : Int) (hw : 0 ≤ who) : ∀ j, measW who.toNat (wst X j) ≤ setN X who j
  | 0 => Nat.le_refl _
  | j + 1 => by
    have h1 := meas_ask who hw (wst X j) (X j)
    have h2 := meas_le X who hw j
    show measW who.toNat (askW (wst X j) (X j)).2 ≤ setN X who (j + 1)
    unfold setN
    by_cases hc : (X j).who = who ∧ (X j).watch = true ∧ (wans X j).code = 0 ∧ 4 ≤ (X j).deed.kind
    · rw [if_pos hc]
      have h3 : measW who.toNat (askW (wst X j) (X j)).2 ≤ measW who.toNat (wst X j) + 1 := by
        refine Nat.le_trans h1 (Nat.add_le_add_left ?_ _)
        split <;> omega
      omega
    · rw [if_neg hc]
      rw [if_neg (show ¬ ((X j).who = who ∧ (X j).watch = true ∧ (askW (wst X j) (X j)).1.code = 0 ∧ 4 ≤ (X j).deed.kind) from hc)] at h1
      omega

/-! notes tell of deeds, in their order -/
theorem tell_nt (d : Deed) (σ : WS) (i : Nat) : ∀ n, (tellN d σ n).nt i = σ.nt i ∨ ((1 ≤ d.kind ∧ d.kind ≤ 3) ∧ (tellN d σ n).nt i = σ.nt i ++ [(d.kind.toNat, d.path)])
  | 0 => .inl rfl
  | n + 1 => by
    show (tell1 d n (tellN d σ n)).nt i = _ ∨ (_ ∧ (tell1 d n (tellN d σ n)).nt i = _)
    rw [tell1_nt]
    by_cases hc : i = n ∧ (fireW false (tellN d σ n).ws (keysW d n)).1 = true
    · rw [if_pos hc, hc.1, tell_ge d σ n n (Nat.le_refl _)]
      refine .inr ⟨?_, rfl⟩
      have hk := hc.2
      unfold keysW at hk
      by_cases h2 : d.kind = 2
      · omega
      rw [if_neg h2] at hk
      by_cases h1 : d.kind = 1
      · omega
      rw [if_neg h1] at hk
      by_cases h3 : d.kind = 3
      · omega
      rw [if_neg h3] at hk
      cases hk
    · rw [if_neg hc]; exact tell_nt d σ i n
theorem nt_next (X : Nat → AskX) (who j : Nat) : (wst X (j + 1)).nt who = (wst X j).nt who ∨ ((wans X j).code = 0 ∧ (1 ≤ (X j).deed.kind ∧ (X j).deed.kind ≤ 3) ∧ (wst X (j + 1)).nt who = (wst X j).nt who ++ [((X j).deed.kind.toNat, (X j).deed.path)]) := by
  show (askW (wst X j) (X j)).2.nt who = _ ∨ ((askW (wst X j) (X j)).1.code = 0 ∧ _ ∧ (askW (wst X j) (X j)).2.nt who = _)
  by_cases hx : 0 ≤ (X j).who ∧ (X j).who < 6
  · by_cases hc : (doS (wst X j).st (X j).deed).1.code = 0
    · rw [ask_ok hx hc]
      show (watchW _ _).nt who = _ ∨ (_ ∧ _ ∧ (watchW _ _).nt who = _)
      rw [watch_nt]
      rcases tell_nt (X j).deed ⟨(doS (wst X j).st (X j).deed).2, (wst X j).ws, (wst X j).nt⟩ who 6 with h | ⟨h1, h2⟩
      · exact .inl h
      · exact .inr ⟨hc, h1, h2⟩
    · rw [ask_err hx hc]; exact .inl rfl
  · rw [ask_bad hx]; exact .inl rfl
/-- The law's own count: a deed that was told OK and is the next note's. -/
def hitW (X : Nat → AskX) (N : List (Nat × Str)) (k j : Nat) : Prop := (wans X j).code = 0 ∧ (1 ≤ (X j).deed.kind ∧ (X j).deed.kind ≤ 3) ∧ N[k]? = some ((X j).deed.kind.toNat, (X j).deed.path)
instance (X : Nat → AskX) (N : List (Nat × Str)) (k j : Nat) : Decidable (hitW X N k j) := by unfold hitW; infer_instance
def grW (X : Nat → AskX) (N : List (Nat × Str)) : Nat → Nat
  | 0 => 0
  | j + 1 => if hitW X N (grW X N j) j then grW X N j + 1 else grW X N j
theorem gr_le (X : Nat → AskX) (N : List (Nat × Str)) : ∀ j, grW X N j ≤ N.length
  | 0 => Nat.zero_le _
  | j + 1 => by
    unfold grW
    split
    · rename_i h
      have := (List.getElem?_eq_some_iff.1 h.2.2).1
      omega
    · exact gr_le X N j
theorem nt_pre (X : Nat → AskX) (who m : Nat) : ∀ k, (wst X m).nt who <+: (wst X (m + k)).nt who
  | 0 => List.prefix_refl _
  | k + 1 => by
    refine (nt_pre X who m k).trans ?_
    rcases nt_next X who (m + k) with h | ⟨_, _, h⟩
    · show _ <+: (wst X (m + k + 1)).nt who
      rw [h]; exact List.prefix_refl _
    · show _ <+: (wst X (m + k + 1)).nt who
      rw [h]; exact List.prefix_append _ _
theorem gr_ge (X : Nat → AskX) (who m : Nat) : ∀ j, j ≤ m → ((wst X j).nt who).length ≤ grW X ((wst X m).nt who) j
  | 0, _ => Nat.le_refl _
  | j + 1, hj => by
    have h1 := gr_ge X who m j (by omega)
    have hp : (wst X (j + 1)).nt who <+: (wst X m).nt who := by
      have := nt_pre X who (j + 1) (m - (j + 1))
      rwa [show j + 1 + (m - (j + 1)) = m by omega] at this
    unfold grW
    rcases nt_next X who j with h | ⟨h2, h3, h4⟩
    · rw [h]
      split <;> omega
    · rw [h4] at hp ⊢
      rw [List.length_append]
      by_cases hc : grW X ((wst X m).nt who) j = ((wst X j).nt who).length
      · obtain ⟨t, ht⟩ := hp
        have hh : hitW X ((wst X m).nt who) (grW X ((wst X m).nt who) j) j := ⟨h2, h3, by rw [hc, ← ht]; simp⟩
        rw [if_pos hh]
        simp; omega
      · split <;> simp <;> omega
/-- WatchOnce. -/
theorem once_law (X : Nat → AskX) (who : Int) (hw : 0 ≤ who) (m : Nat) : grW X ((wst X m).nt who.toNat) m = ((wst X m).nt who.toNat).length ∧ ((wst X m).nt who.toNat).length ≤ setN X who m := by
  refine ⟨Nat.le_antisymm (gr_le _ _ _) (gr_ge X _ m m (Nat.le_refl _)), ?_⟩
  have := meas_le X who hw m
  unfold measW at this
  omega

/-! a watch is triggered once -/
theorem addW_nodup {l : List WKey} (h : l.Nodup) (p : WKey) : (addW l p).Nodup := by
  unfold addW
  split
  · exact h
  · rename_i hn
    rw [List.nodup_append]
    exact ⟨h, by simp, fun a ha b hb e => hn (by rw [← List.mem_singleton.1 hb, ← e]; exact ha)⟩
theorem fire_nodup : ∀ (ks l : List WKey) (f : Bool), l.Nodup → (fireW f l ks).2.Nodup
  | [], _, _, h => h
  | k :: ks, l, _, h => fire_nodup ks (l.erase k) _ (h.erase k)
theorem tell_nodup (d : Deed) {σ : WS} (h : σ.ws.Nodup) : ∀ n, (tellN d σ n).ws.Nodup
  | 0 => h
  | n + 1 => fire_nodup _ _ _ (tell_nodup d h n)
theorem ask_nodup {σ : WS} (h : σ.ws.Nodup) (x : AskX) : (askW σ x).2.ws.Nodup := by
  by_cases hx : 0 ≤ x.who ∧ x.who < 6
  · by_cases hc : (doS σ.st x.deed).1.code = 0
    · rw [ask_ok hx hc]
      show (watchW _ _).ws.Nodup
      unfold watchW
      split
      · exact addW_nodup (tell_nodup x.deed h 6) _
      · exact tell_nodup x.deed h 6
    · rw [ask_err hx hc]; exact h
  · rw [ask_bad hx]; exact h
theorem wst_nodup (X : Nat → AskX) : ∀ j, (wst X j).ws.Nodup
  | 0 => List.nodup_nil
  | j + 1 => ask_nodup (wst_nodup X j) _
theorem keysW_set {d : Deed} (h : d.kind = 2) (i : Nat) : keysW d i = [(i, 4, d.path)] := if_pos h
theorem keysW_get {d : Deed} (h : d.kind = 4) (i : Nat) : keysW d i = [] := by
  unfold keysW
  rw [if_neg (by omega), if_neg (by omega), if_neg (by omega)]
theorem tell_get {d : Deed} (h : d.kind = 4) (σ : WS) : ∀ n, tellN d σ n = σ
  | 0 => rfl
  | n + 1 => by
    show tell1 d n (tellN d σ n) = σ
    rw [tell_get h σ n]
    unfold tell1
    rw [keysW_get h]
    rfl
theorem set_mem {d : Deed} (h : d.kind = 2) (σ : WS) (hn : σ.ws.Nodup) (i : Nat) : ∀ n, ((i, 4, d.path) ∈ (tellN d σ n).ws ↔ n ≤ i ∧ (i, 4, d.path) ∈ σ.ws)
  | 0 => ⟨fun h => ⟨Nat.zero_le _, h⟩, fun h => h.2⟩
  | n + 1 => by
    have ih := set_mem h σ hn i n
    show (i, 4, d.path) ∈ (fireW false (tellN d σ n).ws (keysW d n)).2 ↔ _
    rw [keysW_set h]
    show (i, 4, d.path) ∈ (tellN d σ n).ws.erase (n, 4, d.path) ↔ _
    by_cases e : i = n
    · subst e
      exact ⟨fun hm => absurd hm (tell_nodup d hn i).not_mem_erase, fun hm => by have := hm.1; omega⟩
    · rw [List.mem_erase_of_ne (fun he => e (congrArg Prod.fst he)), ih]
      exact ⟨fun hm => ⟨by have := hm.1; omega, hm.2⟩, fun hm => ⟨by have := hm.1; omega, hm.2⟩⟩
theorem set_nt {d : Deed} (h : d.kind = 2) (σ : WS) (hn : σ.ws.Nodup) (i : Nat) : ∀ n, (tellN d σ n).nt i = if i < n ∧ (i, 4, d.path) ∈ σ.ws then σ.nt i ++ [(2, d.path)] else σ.nt i
  | 0 => by rw [if_neg (by omega)]; rfl
  | n + 1 => by
    have ih := set_nt h σ hn i n
    show (tell1 d n (tellN d σ n)).nt i = _
    rw [tell1_nt, keysW_set h]
    have hf : (fireW false (tellN d σ n).ws [(n, 4, d.path)]).1 = true ↔ (n, 4, d.path) ∈ (tellN d σ n).ws := by simp [fireW]
    by_cases e : i = n
    · subst e
      have h1 := set_mem h σ hn i i
      have h2 := tell_ge d σ i i (Nat.le_refl _)
      by_cases hm : (i, 4, d.path) ∈ σ.ws
      · rw [if_pos ⟨rfl, hf.2 (h1.2 ⟨Nat.le_refl _, hm⟩)⟩, if_pos ⟨Nat.lt_succ_self _, hm⟩, h2, show d.kind.toNat = 2 by omega]
      · rw [if_neg (fun h => hm (h1.1 (hf.1 h.2)).2), if_neg (fun h => hm h.2), h2]
    · rw [if_neg (fun h => e h.1), ih]
      by_cases hc : i < n ∧ (i, 4, d.path) ∈ σ.ws
      · rw [if_pos hc, if_pos ⟨by omega, hc.2⟩]
      · rw [if_neg hc, if_neg (fun h => hc ⟨by have := h.1; omega, h.2⟩)]
theorem wget (st : TS) (p y : Str) (v : Int) : doS st ⟨4, p, y, v⟩ = if nameB p = false then (A0 3, st) else if p ∉ st.ks then (A0 5, st) else (⟨0, st.dat p, st.ver p, []⟩, st) := by
  unfold doS
  rw [if_neg (by show ¬ ((4 : Int) < 1 ∨ (5 : Int) < 4); decide)]
  show (if nameB p = false then _ else _) = _
  by_cases h1 : nameB p = false
  · rw [if_pos h1, if_pos h1]
  rw [if_neg h1, if_neg h1, if_neg (fun h => h.1.elim (fun h => absurd h (show ¬ (4 : Int) = 1 by decide)) (fun h => absurd h (show ¬ (4 : Int) = 2 by decide))), if_neg (by show ¬ (4 : Int) = 1; decide), if_neg (fun h => absurd h.1 (by show ¬ (4 : Int) = 3; decide))]
  show (if p ∉ st.ks then _ else _) = _
  by_cases h2 : p ∉ st.ks
  · rw [if_pos h2, if_pos h2]
  rw [if_neg h2, if_neg h2, if_pos rfl]
theorem wset (st : TS) (p : Str) : doS st ⟨2, p, [], -1⟩ = if nameB p = false then (A0 3, st) else if p ∉ st.ks then (A0 5, st) else (⟨0, [], st.ver p + 1, []⟩, putS st p [] (st.ver p + 1)) := by
  unfold doS
  rw [if_neg (by show ¬ ((2 : Int) < 1 ∨ (5 : Int) < 2); decide)]
  show (if nameB p = false then _ else _) = _
  by_cases h1 : nameB p = false
  · rw [if_pos h1, if_pos h1]
  rw [if_neg h1, if_neg h1, if_neg (fun h => absurd h.2 (by show ¬ 20 < 0; decide)), if_neg (by show ¬ (2 : Int) = 1; decide), if_neg (fun h => absurd h.1 (by show ¬ (2 : Int) = 3; decide))]
  show (if p ∉ st.ks then _ else _) = _
  by_cases h2 : p ∉ st.ks
  · rw [if_pos h2, if_pos h2]
  rw [if_neg h2, if_neg h2, if_neg (by show ¬ (2 : Int) = 4; decide), if_neg (by show ¬ (2 : Int) = 5; decide), if_neg (fun h => absurd h.1 (by show ¬ (0 : Int) ≤ -1; decide)), if_pos rfl]
theorem put_in {st : TS} {p d : Str} {v : Nat} (h : p ∈ st.ks) : p ∈ (putS st p d v).ks := by
  show p ∈ (if p ∈ st.ks then st.ks else st.ks ++ [p])
  rw [if_pos h]; exact h
abbrev getX (who : Int) (p : Str) : AskX := ⟨who, true, ⟨4, p, [], 0⟩⟩
abbrev setX (p : Str) : AskX := ⟨0, false, ⟨2, p, [], -1⟩⟩
/-- A set of a name that is there: who watches it, of him the watch is gone and a note is there. -/
theorem ask_set {σ : WS} {p : Str} (h1 : nameB p = true) (h2 : p ∈ σ.st.ks) (hn : σ.ws.Nodup) : (askW σ (setX p)).1.code = 0 ∧ nameB p = true ∧ p ∈ (askW σ (setX p)).2.st.ks ∧ (askW σ (setX p)).2.ws.Nodup ∧
    ∀ i, i < 6 → ((i, 4, p) ∉ (askW σ (setX p)).2.ws ∧ (askW σ (setX p)).2.nt i = if (i, 4, p) ∈ σ.ws then σ.nt i ++ [(2, p)] else σ.nt i) := by
  have hw : 0 ≤ (setX p).who ∧ (setX p).who < 6 := by show 0 ≤ (0 : Int) ∧ (0 : Int) < 6; decide
  have e : doS σ.st (setX p).deed = (⟨0, [], σ.st.ver p + 1, []⟩, putS σ.st p [] (σ.st.ver p + 1)) := by
    rw [wset, if_neg (by simp [h1]), if_neg (not_not_intro h2)]
  have hc : (doS σ.st (setX p).deed).1.code = 0 := by rw [e]
  have hnd := ask_nodup hn (setX p)
  rw [ask_ok hw hc] at hnd ⊢
  have ew : ∀ τ : WS, watchW τ (setX p) = τ := fun τ => if_neg (fun h => by cases h.1)
  rw [ew] at hnd ⊢
  refine ⟨hc, h1, ?_, hnd, fun i hi => ⟨?_, ?_⟩⟩
  · show p ∈ (tellN _ _ 6).st.ks
    rw [tell_st, e]
    exact put_in h2
  · intro hm
    have := ((set_mem (d := (setX p).deed) rfl ⟨(doS σ.st (setX p).deed).2, σ.ws, σ.nt⟩ hn i 6).1 hm).1
    omega
  · have h3 := set_nt (d := (setX p).deed) rfl ⟨(doS σ.st (setX p).deed).2, σ.ws, σ.nt⟩ hn i 6
    refine h3.trans ?_
    by_cases hm : (i, 4, p) ∈ σ.ws
    · rw [if_pos hm, if_pos ⟨hi, hm⟩]
    · rw [if_neg hm, if_neg (fun h => hm h.2)]
theorem addW_mem (l : List WKey) (p : WKey) : p ∈ addW l p := by
  unfold addW
  split
  · assumption
  · exact List.mem_append.2 (.inr (List.mem_singleton.2 rfl))
structure FiresLaw (c0 c1 : Int) (a b : List (Nat × Str)) (who : Int) (p : Str) : Prop where
  out : ¬ (0 ≤ who ∧ who < 6) → c0 = 2
  no : (0 ≤ who ∧ who < 6) → c0 ≠ 0 → c1 ≠ 0
  yes : (0 ≤ who ∧ who < 6) → c0 = 0 → b = a ++ [(2, p)]
theorem fires_law (σ : WS) (hn : σ.ws.Nodup) (who : Int) (p : Str) : FiresLaw (askW σ (getX who p)).1.code (askW (askW σ (getX who p)).2 (setX p)).1.code ((askW σ (getX who p)).2.nt who.toNat) ((askW (askW (askW σ (getX who p)).2 (setX p)).2 (setX p)).2.nt who.toNat) who p := by
  by_cases hw : 0 ≤ who ∧ who < 6
  · have hg : doS σ.st (getX who p).deed = if nameB p = false then (A0 3, σ.st) else if p ∉ σ.st.ks then (A0 5, σ.st) else (⟨0, σ.st.dat p, σ.st.ver p, []⟩, σ.st) := wget _ _ _ _
    have hw0 : 0 ≤ (setX p).who ∧ (setX p).who < 6 := by show 0 ≤ (0 : Int) ∧ (0 : Int) < 6; decide
    by_cases h1 : nameB p = false
    · rw [if_pos h1] at hg
      have hc : (doS σ.st (getX who p).deed).1.code ≠ 0 := by rw [hg]; simp [A0]
      rw [ask_err hw hc, hg]
      refine ⟨fun h => absurd hw h, fun _ _ => ?_, fun _ h => absurd h (by simp [A0])⟩
      have hs := wset σ.st p
      rw [if_pos h1] at hs
      have hc2 : (doS σ.st (setX p).deed).1.code ≠ 0 := by rw [hs]; simp [A0]
      rw [ask_err (σ := ⟨σ.st, σ.ws, σ.nt⟩) hw0 hc2]
      exact hc2
    rw [if_neg h1] at hg
    by_cases h2 : p ∉ σ.st.ks
    · rw [if_pos h2] at hg
      have hc : (doS σ.st (getX who p).deed).1.code ≠ 0 := by rw [hg]; simp [A0]
      rw [ask_err hw hc, hg]
      refine ⟨fun h => absurd hw h, fun _ _ => ?_, fun _ h => absurd h (by simp [A0])⟩
      have hs := wset σ.st p
      rw [if_neg h1, if_pos h2] at hs
      have hc2 : (doS σ.st (setX p).deed).1.code ≠ 0 := by rw [hs]; simp [A0]
      rw [ask_err (σ := ⟨σ.st, σ.ws, σ.nt⟩) hw0 hc2]
      exact hc2
    rw [if_neg h2] at hg
    have hc : (doS σ.st (getX who p).deed).1.code = 0 := by rw [hg]
    have e1 : (askW σ (getX who p)).2 = ⟨σ.st, addW σ.ws (who.toNat, 4, p), σ.nt⟩ := by
      rw [ask_ok hw hc, tell_get rfl, hg]
      have hc4 : (getX who p).watch = true ∧ 4 ≤ (getX who p).deed.kind := ⟨rfl, by show (4 : Int) ≤ 4; decide⟩
      unfold watchW
      rw [if_pos hc4]
      rfl
    obtain ⟨_, k1, k2, k3, k4⟩ := ask_set (σ := ⟨σ.st, addW σ.ws (who.toNat, 4, p), σ.nt⟩) (by simpa using h1) (Classical.not_not.1 h2) (addW_nodup hn _)
    obtain ⟨k5, k6⟩ := k4 who.toNat (by omega)
    obtain ⟨_, _, _, _, q4⟩ := ask_set k1 k2 k3
    obtain ⟨_, q6⟩ := q4 who.toNat (by omega)
    rw [if_pos (addW_mem _ _)] at k6
    rw [if_neg k5, k6] at q6
    rw [e1]
    refine ⟨fun h => absurd hw h, fun _ h => absurd ?_ h, fun _ _ => q6⟩
    rw [ask_ok hw hc]; exact hc
  · rw [ask_bad hw]
    exact ⟨fun _ => rfl, fun h => absurd h hw, fun h => absurd h hw⟩
theorem wst_congr {X Y : Nat → AskX} : ∀ j, (∀ i, i < j → X i = Y i) → wst X j = wst Y j
  | 0, _ => rfl
  | j + 1, h => by
    show (askW (wst X j) (X j)).2 = (askW (wst Y j) (Y j)).2
    rw [wst_congr j fun i hi => h i (by omega), h j (by omega)]

/-! watches change nothing of what is told -/
def bareX (X : Nat → AskX) (i : Nat) : AskX := ⟨(X i).who, false, (X i).deed⟩
theorem fire_nil : ∀ ks : List WKey, fireW false [] ks = (false, [])
  | [] => rfl
  | k :: ks => fire_nil ks
theorem tell_bare (d : Deed) (st : TS) (nt : Nat → List (Nat × Str)) : ∀ n, tellN d ⟨st, [], nt⟩ n = ⟨st, [], nt⟩
  | 0 => rfl
  | n + 1 => by
    show tell1 d n (tellN d _ n) = _
    rw [tell_bare d st nt n]
    unfold tell1
    rw [fire_nil]
    rfl
theorem bare_st (X : Nat → AskX) : ∀ j, wst (bareX X) j = ⟨(wst X j).st, [], fun _ => []⟩
  | 0 => rfl
  | j + 1 => by
    show (askW (wst (bareX X) j) (bareX X j)).2 = ⟨(askW (wst X j) (X j)).2.st, [], fun _ => []⟩
    rw [bare_st X j]
    by_cases hx : 0 ≤ (X j).who ∧ (X j).who < 6
    · rw [(ask_st hx).2]
      by_cases hc : (doS (wst X j).st (X j).deed).1.code = 0
      · rw [ask_ok (σ := ⟨(wst X j).st, [], fun _ => []⟩) (x := bareX X j) hx hc, tell_bare]
        have hb : ¬ ((bareX X j).watch = true ∧ 4 ≤ (bareX X j).deed.kind) := fun h => absurd h.1 (by show ¬ false = true; decide)
        unfold watchW
        rw [if_neg hb]
        rfl
      · rw [ask_err (σ := ⟨(wst X j).st, [], fun _ => []⟩) (x := bareX X j) hx hc]
        rfl
    · rw [ask_bad hx, ask_bad (x := bareX X j) hx]
theorem bare_ans (X : Nat → AskX) (j : Nat) : wans (bareX X) j = wans X j := by
  show (askW (wst (bareX X) j) (bareX X j)).1 = (askW (wst X j) (X j)).1
  rw [bare_st X j]
  by_cases hx : 0 ≤ (X j).who ∧ (X j).who < 6
  · rw [(ask_st hx).1, (ask_st (x := bareX X j) hx).1]
    rfl
  · rw [ask_bad hx, ask_bad (x := bareX X j) hx]
/-- The deeds of those that are inside, in their order. -/
def cntI (X : Nat → AskX) : Nat → Nat
  | 0 => 0
  | j + 1 => if 0 ≤ (X j).who ∧ (X j).who < 6 then cntI X j + 1 else cntI X j
def ownI (X : Nat → AskX) : Nat → Nat → Deed
  | 0 => fun _ => Dz
  | j + 1 => if 0 ≤ (X j).who ∧ (X j).who < 6 then appD (ownI X j) (cntI X j) (lsD [(X j).deed]) else ownI X j
theorem cntI_le (X : Nat → AskX) : ∀ j, cntI X j ≤ j
  | 0 => Nat.le_refl _
  | j + 1 => by
    have := cntI_le X j
    unfold cntI
    split <;> omega
theorem cntI_mono (X : Nat → AskX) (j : Nat) : ∀ k, cntI X j ≤ cntI X (j + k)
  | 0 => Nat.le_refl _
  | k + 1 => by
    refine Nat.le_trans (cntI_mono X j k) ?_
    show cntI X (j + k) ≤ cntI X (j + k + 1)
    have : cntI X (j + k + 1) = if 0 ≤ (X (j + k)).who ∧ (X (j + k)).who < 6 then cntI X (j + k) + 1 else cntI X (j + k) := rfl
    rw [this]
    split <;> omega
theorem ownI_old (X : Nat → AskX) (j : Nat) {t : Nat} (ht : t < cntI X j) : ∀ k, ownI X (j + k) t = ownI X j t
  | 0 => rfl
  | k + 1 => by
    have hlt : t < cntI X (j + k) := Nat.lt_of_lt_of_le ht (cntI_mono X j k)
    show ownI X (j + k + 1) t = _
    have : ownI X (j + k + 1) = if 0 ≤ (X (j + k)).who ∧ (X (j + k)).who < 6 then appD (ownI X (j + k)) (cntI X (j + k)) (lsD [(X (j + k)).deed]) else ownI X (j + k) := rfl
    rw [this]
    split
    · rw [appD_old _ _ _ hlt]; exact ownI_old X j ht k
    · exact ownI_old X j ht k
theorem runW_congr {D E : Nat → Deed} (st : TS) : ∀ j, (∀ i, i < j → D i = E i) → runS st D j = runS st E j
  | 0, _ => rfl
  | j + 1, h => by
    show (doS (runS st D j) (D j)).2 = (doS (runS st E j) (E j)).2
    rw [runW_congr st j fun i hi => h i (by omega), h j (by omega)]
theorem ownI_L (X : Nat → AskX) (m : Nat) (h : ∀ i, i < m → DeedL (X i).deed) : ∀ j, j ≤ m → ∀ t, t < cntI X j → DeedL (ownI X j t)
  | 0, _, t, ht => absurd ht (Nat.not_lt_zero _)
  | j + 1, hj, t, ht => by
    have ih := ownI_L X m h j (by omega)
    unfold cntI at ht
    unfold ownI
    by_cases hx : 0 ≤ (X j).who ∧ (X j).who < 6
    · rw [if_pos hx] at ht ⊢
      by_cases h2 : t < cntI X j
      · rw [appD_old _ _ _ h2]; exact ih t h2
      · obtain rfl : t = cntI X j + 0 := by omega
        rw [appD_new]
        exact h j (by omega)
    · rw [if_neg hx] at ht ⊢; exact ih t ht
theorem own_run (X : Nat → AskX) : ∀ j, runS T0 (ownI X j) (cntI X j) = (wst X j).st
  | 0 => rfl
  | j + 1 => by
    have ih := own_run X j
    show runS T0 (ownI X (j + 1)) (cntI X (j + 1)) = (askW (wst X j) (X j)).2.st
    unfold cntI ownI
    by_cases hx : 0 ≤ (X j).who ∧ (X j).who < 6
    · rw [if_pos hx, if_pos hx, (ask_st hx).2, runS_app]
      show (doS (runS T0 (ownI X j) (cntI X j)) (X j).deed).2 = _
      rw [ih]
    · rw [if_neg hx, if_neg hx, ask_bad hx]; exact ih
/-- What tree.Play tells of it is what was told. -/
theorem own_ans (X : Nat → AskX) {j m : Nat} (hj : j < m) (hx : 0 ≤ (X j).who ∧ (X j).who < 6) : cntI X j < cntI X m ∧ ansS T0 (ownI X m) (cntI X j) = wans X j := by
  have e1 : cntI X (j + 1) = cntI X j + 1 := if_pos hx
  have e2 : ownI X (j + 1) = appD (ownI X j) (cntI X j) (lsD [(X j).deed]) := if_pos hx
  have h1 := cntI_mono X (j + 1) (m - (j + 1))
  rw [show j + 1 + (m - (j + 1)) = m by omega] at h1
  refine ⟨by omega, ?_⟩
  have h2 : ∀ t, t < cntI X j + 1 → ownI X m t = ownI X (j + 1) t := fun t ht => by
    have := ownI_old X (j + 1) (t := t) (by omega) (m - (j + 1))
    rwa [show j + 1 + (m - (j + 1)) = m by omega] at this
  show (doS (runS T0 (ownI X m) (cntI X j)) (ownI X m (cntI X j))).1 = (askW (wst X j) (X j)).1
  rw [(ask_st hx).1, runW_congr (E := ownI X j) T0 (cntI X j) (fun i hi => by rw [h2 i (by omega), e2, appD_old _ _ _ hi]), own_run, h2 _ (by omega), e2]
  have := appD_new (ownI X j) (cntI X j) (lsD [(X j).deed]) 0
  rw [Nat.add_zero] at this
  rw [this]
  rfl
end Go.Proofs.YtfdgjbanajodfaaDoor
namespace Go.Proofs.YtfdgjbanajodfaaDoor
open Go.RowKit

/-- An answer of Play in memory. -/
structure WpR (w : World) (B : Nat) (AC : Option Addr) (m : Nat) (NA : Nat → Option Addr) (NC : Nat → Nat) (a : Nat → Ans) (gn : Nat) (MA : Nat → Option Addr) (MC : Nat → Nat) (nt : Nat → List (Nat × Str)) : Prop where
  pl : PlR w B AC m NA NC a
  G : Rd w B (some ⟨gn, 0, none⟩) 6 (gF MA MC nt)
  N : ∀ i, i < 6 → Rd w B (MA i) ((nt i).length * 2) (ntF (nt i))
section
variable {w w' : World} {B : Nat} {AC : Option Addr} {m : Nat} {NA : Nat → Option Addr} {NC : Nat → Nat} {a : Nat → Ans} {gn : Nat} {MA : Nat → Option Addr} {MC : Nat → Nat} {nt : Nat → List (Nat × Str)}
theorem WpR.to (h : WpR w B AC m NA NC a gn MA MC nt) (hb : Below w.heap.size w w') : WpR w' B AC m NA NC a gn MA MC nt :=
  ⟨h.pl.to hb, h.G.below (hb.mono h.pl.le), fun i hi => (h.N i hi).below (hb.mono h.pl.le)⟩
theorem WpR.at_ (h : WpR w B AC m NA NC a gn MA MC nt) {i : Nat} (hi : i < 6) : gn < B ∧ w.cell? ⟨gn, i, none⟩ = some (.slice (MA i) (nt i).length (MC i)) := by
  obtain ⟨ad, e, hb, hc⟩ := h.G (by omega)
  injection e with e
  subst e
  have e : (⟨gn, 0, none⟩ : Addr).add i = ⟨gn, i, none⟩ := by unfold Addr.add; split <;> simp_all
  have := hc i hi
  rw [e] at this
  exact ⟨hb, this⟩
theorem WpR.note (h : WpR w B AC m NA NC a gn MA MC nt) {i k : Nat} (hi : i < 6) {x : Nat × Str} (hk : (nt i)[k]? = some x) :
    ∃ ad, MA i = some ad ∧ ad.block < B ∧ w.cell? (ad.add (k * 2)) = some (.int .i64 (x.1 : Nat)) ∧ w.cell? ⟨(ad.add (k * 2)).block, (ad.add (k * 2)).off + 1, none⟩ = some (.string (bs x.2)) := by
  have hl := (List.getElem?_eq_some_iff.1 hk).1
  obtain ⟨ad, e, hb, hc⟩ := h.N i hi (by omega)
  have hx : (nt i).getD k (0, []) = x := by rw [List.getD_eq_getElem?_getD, hk]; rfl
  have h0 := hc (k * 2 + 0) (by omega)
  have h1 := hc (k * 2 + 1) (by omega)
  unfold ntF at h0 h1
  rw [show (k * 2 + 0) / 2 = k by omega, show (k * 2 + 0) % 2 = 0 by omega, hx] at h0
  rw [show (k * 2 + 1) / 2 = k by omega, show (k * 2 + 1) % 2 = 1 by omega, hx] at h1
  rw [← addr_add] at h1
  exact ⟨ad, e, hb, h0, h1⟩
end
theorem rows_app (X VR : List LRow) : RowsIn VR (X ++ VR) := fun k r h => ⟨X.length + k, by rw [List.getElem?_append_right (by omega), Nat.add_sub_cancel_left]; exact h⟩
theorem wplay_law (m cap B : Nat) (A : Option Addr) (X : Nat → AskX) (w : World) (hm : m ≤ 60) (hB : B ≤ w.heap.size) (hD : ∀ i, i < m → DeedL (X i).deed) (hr : Rd w B A (m * 6) (akF X)) :
    Calls Tryd.prog 9 #[.slice A m cap] w fun e w' => ∃ AC cC NA NC gn MA MC, e = .returned (.tuple #[.slice AC m cC, .slice (some ⟨gn, 0, none⟩) 6 6, .int .i64 0]) ∧ Below w.heap.size w w' ∧
      WpR w' w'.heap.size AC m NA NC (wans X) gn MA MC (wst X m).nt := by
  refine (wplay_good m cap B A X w hm hB hD hr).mono ?_
  rintro e w' ⟨v, rfl, AC, cC, G, VR, gn, MA, MC, rfl, hL, hT⟩
  have hL' : Lay w w' (rowTd AC m cC G :: ((rowNs gn MA MC (wst X m).nt :: famNt MA MC (wst X m).nt) ++ VR)) := hL
  obtain ⟨NA, NC, h, -⟩ := plR_of hL' fun t ht => (hT t ht).sub (rows_app _ VR)
  refine ⟨AC, cC, NA, NC, gn, MA, MC, rfl, hL.bel, h, hL.rd1 1 rfl, fun i hi => ?_⟩
  rcases (by omega : i = 0 ∨ i = 1 ∨ i = 2 ∨ i = 3 ∨ i = 4 ∨ i = 5) with rfl | rfl | rfl | rfl | rfl | rfl
  · exact hL.rd 2 rfl
  · exact hL.rd 3 rfl
  · exact hL.rd 4 rfl
  · exact hL.rd 5 rfl
  · exact hL.rd 6 rfl
  · exact hL.rd 7 rfl
theorem setN_le (X : Nat → AskX) (who : Int) : ∀ k, setN X who k ≤ k
  | 0 => Nat.le_refl _
  | k + 1 => by
    have := setN_le X who k
    unfold setN
    split <;> omega
end Go.Proofs.YtfdgjbanajodfaaDoor
