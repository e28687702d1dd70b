/- causal: what every state keeps (Birman, Schiper, Stephenson). -/
import Derived.Test.YtiljnddjecbmfaaCaMath
set_option linter.unusedVariables false
set_option linter.unusedSimpArgs false
namespace Go.Proofs.Ytiljnddjecbmfaa

/-- What stands ahead of k. -/
def bef (l : List Nat) (k : Nat) : List Nat := l.takeWhile fun x => decide (x ≠ k)
theorem bef_old {k : Nat} : ∀ {l : List Nat} (m : List Nat), k ∈ l → bef (l ++ m) k = bef l k
  | [], _, h => by simp at h
  | x :: l, m, h => by
    unfold bef
    rw [List.cons_append, List.takeWhile_cons, List.takeWhile_cons]
    by_cases e : x = k
    · subst e; simp
    · have h1 : k ∈ l := by
        rcases List.mem_cons.1 h with h | h
        · exact absurd h.symm e
        · exact h
      have := bef_old m h1
      unfold bef at this
      rw [this]
theorem bef_new {k : Nat} : ∀ {l : List Nat}, k ∉ l → bef (l ++ [k]) k = l
  | [], _ => by simp [bef]
  | x :: l, h => by
    have h1 : x ≠ k := fun e => h (by rw [e]; exact List.mem_cons_self)
    have := bef_new (l := l) fun hm => h (List.mem_cons_of_mem _ hm)
    unfold bef at this ⊢
    rw [List.cons_append, List.takeWhile_cons, this]
    simp [h1]
theorem bef_mem {l : List Nat} {k x : Nat} (h : x ∈ bef l k) : x ∈ l := (List.takeWhile_sublist _).subset h
theorem bef_nodup {l : List Nat} {k : Nat} (h : l.Nodup) : (bef l k).Nodup := h.sublist (List.takeWhile_sublist _)
abbrev fromO (b : Nat → Nat) (o : Nat) (l : List Nat) : List Nat := l.filter fun x => decide (b x = o)
theorem fromO_congr {b b' : Nat → Nat} {o : Nat} {l : List Nat} (h : ∀ x, x ∈ l → b' x = b x) : fromO b' o l = fromO b o l := List.filter_congr fun x hx => by rw [h x hx]
theorem filt_one (b : Nat → Nat) (o y : Nat) : (fromO b o [y]).length = if b y = o then 1 else 0 := by
  unfold fromO
  by_cases h : b y = o
  · simp [h]
  · simp [h]
theorem fromO_app (b : Nat → Nat) (o y : Nat) (l : List Nat) : (fromO b o (l ++ [y])).length = (fromO b o l).length + if b y = o then 1 else 0 := by
  rw [← filt_one]
  unfold fromO
  rw [List.filter_append, List.length_append]
structure CJ (n : Nat) (s : CaS) : Prop where
  own : ∀ k, k < s.m → k ∈ s.told (s.by_ k)
  dc : ∀ p x, x ∈ s.told p → ∀ y, y < x → s.by_ y = s.by_ x → y ∈ s.told p
  cnt : ∀ p o, s.clock p o = (fromO s.by_ o (s.told p)).length
  ah : ∀ k, k < s.m → ∀ o, s.ahead k o = (fromO s.by_ o (bef (s.told (s.by_ k)) k)).length
  lt : ∀ k, k < s.m → ∀ x, x ∈ bef (s.told (s.by_ k)) k → x < k
  ob : ∀ k, k < s.m → ∀ z, z < k → s.by_ z = s.by_ k → z ∈ bef (s.told (s.by_ k)) k
  bd : ∀ k, k < s.m → ∀ x, x ∈ bef (s.told (s.by_ k)) k → ∀ z, z < x → s.by_ z = s.by_ x → z ∈ bef (s.told (s.by_ k)) k
  ord : ∀ p k, k ∈ s.told p → ∀ x, x ∈ bef (s.told (s.by_ k)) k → x ∈ bef (s.told p) k
  cm : ∀ p k, s.come p k = true → k < s.m
theorem under_le {n : Nat} {a b : Nat → Nat} (h : underB n a b = true) {o : Nat} (ho : o < n) : a o ≤ b o := by
  unfold underB at h
  rw [Bool.not_eq_true', anyTo_no] at h
  have := h o ho
  simp at this; exact this
theorem under_of {n : Nat} {a b : Nat → Nat} (h : ∀ o, o < n → a o ≤ b o) : underB n a b = true := by
  unfold underB
  rw [Bool.not_eq_true', anyTo_no]
  intro o ho
  simp [h o ho]
/-- Whatever the sender was told ahead has been told. -/
theorem CJ.claim {n j p y : Nat} {s : CaS} (h : CJ n s) (hB : CaB n j s) (hy : y < s.m) (hu : underB n (s.ahead y) (s.clock p) = true) : ∀ x, x ∈ bef (s.told (s.by_ y)) y → x ∈ s.told p := by
  intro x hx
  refine Classical.byContradiction fun hno => ?_
  have hxm : x < s.m := hB.told _ x (bef_mem hx)
  have ho := hB.by_ x hxm
  have h1 := under_le hu ho
  rw [h.ah y hy, h.cnt p] at h1
  have hnd : (x :: fromO s.by_ (s.by_ x) (s.told p)).Nodup := List.nodup_cons.2 ⟨fun hm => hno (List.mem_filter.1 hm).1, (hB.nd p).filter _⟩
  have hsub : (x :: fromO s.by_ (s.by_ x) (s.told p)) ⊆ fromO s.by_ (s.by_ x) (bef (s.told (s.by_ y)) y) := by
    intro z hz
    rcases List.mem_cons.1 hz with e | hz
    · subst e; exact List.mem_filter.2 ⟨hx, by simp⟩
    · obtain ⟨hz1, hz2⟩ := List.mem_filter.1 hz
      have hz2 : s.by_ z = s.by_ x := by simpa using hz2
      refine List.mem_filter.2 ⟨?_, by simpa using hz2⟩
      have hzx : z < x := by
        apply Classical.byContradiction
        intro hge
        by_cases e : z = x
        · exact hno (by rw [← e]; exact hz1)
        · exact hno (h.dc p z hz1 x (by omega) hz2.symm)
      exact h.bd y hy x hx z hzx hz2
  have := hnd.length_le_of_subset hsub
  simp only [List.length_cons] at this
  omega
theorem CJ.tell {n j p y : Nat} {s : CaS} (h : CJ n s) (hB : CaB n j s) (hy : y < s.m) (hn : y ∉ s.told p) (hA : ∀ x, x ∈ bef (s.told (s.by_ y)) y → x ∈ s.told p) : CJ n (tellC p y s) := by
  have htold : ∀ i, (tellC p y s).told i = if i = p then s.told p ++ [y] else s.told i := fun i => rfl
  have hbef : ∀ k, k < s.m → bef ((tellC p y s).told (s.by_ k)) k = bef (s.told (s.by_ k)) k := fun k hk => by
    rw [htold]; split
    · rename_i e
      rw [← e]
      exact bef_old _ (h.own k hk)
    · rfl
  refine ⟨fun k hk => ?_, fun i x hx z hz hb => ?_, fun i o => ?_, fun k hk o => ?_, fun k hk => ?_, fun k hk => ?_, fun k hk => ?_, fun i k hk x hx => ?_, h.cm⟩
  · show k ∈ (tellC p y s).told (s.by_ k)
    rw [htold]; split
    · rename_i e; rw [← e]; exact List.mem_append_left _ (h.own k hk)
    · exact h.own k hk
  · rw [htold] at hx ⊢
    by_cases e : i = p
    · rw [if_pos e] at hx ⊢
      rcases List.mem_append.1 hx with hx | hx
      · exact List.mem_append_left _ (h.dc p x hx z hz hb)
      · rw [List.mem_singleton] at hx
        subst hx
        exact List.mem_append_left _ (hA z (h.ob x hy z hz hb))
    · rw [if_neg e] at hx ⊢
      exact h.dc i x hx z hz hb
  · rw [htold]
    show upd s.clock p (upd (s.clock p) (s.by_ y) (s.clock p (s.by_ y) + 1)) i o = _
    rw [upd_apply]
    split
    · rw [upd_apply]
      show _ = (fromO s.by_ o (s.told p ++ [y])).length
      rw [fromO_app, h.cnt p o, h.cnt p (s.by_ y)]
      by_cases e : o = s.by_ y
      · subst e
        rw [if_pos rfl, if_pos rfl]
      · rw [if_neg e, if_neg (fun h => e h.symm)]; rfl
    · exact h.cnt i o
  · show s.ahead k o = (fromO s.by_ o (bef ((tellC p y s).told (s.by_ k)) k)).length
    rw [hbef k hk]; exact h.ah k hk o
  · show ∀ x, x ∈ bef ((tellC p y s).told (s.by_ k)) k → x < k
    rw [hbef k hk]; exact h.lt k hk
  · show ∀ z, z < k → s.by_ z = s.by_ k → z ∈ bef ((tellC p y s).told (s.by_ k)) k
    rw [hbef k hk]; exact h.ob k hk
  · show ∀ x, x ∈ bef ((tellC p y s).told (s.by_ k)) k → ∀ z, z < x → s.by_ z = s.by_ x → z ∈ bef ((tellC p y s).told (s.by_ k)) k
    rw [hbef k hk]; exact h.bd k hk
  · have hkm : k < s.m := by
      rw [htold] at hk
      split at hk
      · rcases List.mem_append.1 hk with hk | hk
        · exact hB.told p k hk
        · rw [List.mem_singleton.1 hk]; exact hy
      · exact hB.told i k hk
    have hx2 : x ∈ bef ((tellC p y s).told (s.by_ k)) k := hx
    rw [hbef k hkm] at hx2
    clear hx
    rw [htold] at hk ⊢
    by_cases e : i = p
    · rw [if_pos e] at hk ⊢
      rcases List.mem_append.1 hk with hk | hk
      · rw [bef_old _ hk]; exact h.ord p k hk x hx2
      · rw [List.mem_singleton] at hk
        rw [hk] at hx2 ⊢
        rw [bef_new hn]; exact hA x hx2
    · rw [if_neg e] at hk ⊢
      exact h.ord i k hk x hx2
theorem CJ.settle {n j i : Nat} : ∀ {f : Nat} {s : CaS}, CaB n j s → CJ n s → CJ n (settleC n i f s)
  | 0, _, _, h => h
  | f + 1, s, hB, h => by
    rw [settleC]
    split
    · exact h
    · rename_i k hk
      obtain ⟨h1, h2, _⟩ := next_some hk
      have hu : underB n (s.ahead k) (s.clock i) = true := by
        unfold mayC at h2
        simp only [Bool.and_eq_true] at h2
        exact h2.2
      exact CJ.settle (hB.tell h1 (may_not h2)) (h.tell hB h1 (may_not h2) (h.claim hB h1 hu))
theorem CJ.send {n j i : Nat} {s : CaS} (h : CJ n s) (hB : CaB n j s) : CJ n (sendC i s) := by
  have hmi : ∀ p, s.m ∉ s.told p := fun p hm => by have := hB.told p _ hm; omega
  have htold : ∀ p, (sendC i s).told p = if p = i then s.told i ++ [s.m] else s.told p := fun p => rfl
  have hby : ∀ k, (sendC i s).by_ k = if k = s.m then i else s.by_ k := fun k => rfl
  have hbo : ∀ k, k < s.m → (sendC i s).by_ k = s.by_ k := fun k hk => by rw [hby, if_neg (by omega)]
  have hbn : (sendC i s).by_ s.m = i := by rw [hby, if_pos rfl]
  have hm : (sendC i s).m = s.m + 1 := rfl
  have hbef : ∀ k, k < s.m → bef ((sendC i s).told (s.by_ k)) k = bef (s.told (s.by_ k)) k := fun k hk => by
    rw [htold]; split
    · rename_i e
      rw [← e]
      exact bef_old _ (h.own k hk)
    · rfl
  have hbm : bef ((sendC i s).told i) s.m = s.told i := by rw [htold, if_pos rfl]; exact bef_new (hmi i)
  have hfo : ∀ o (l : List Nat), (∀ x, x ∈ l → x < s.m) → fromO (sendC i s).by_ o l = fromO s.by_ o l := fun o l hl => fromO_congr fun x hx => hbo x (hl x hx)
  have hcase : ∀ k, k < (sendC i s).m → k < s.m ∨ k = s.m := fun k hk => by rw [hm] at hk; omega
  refine ⟨fun k hk => ?_, fun p x hx z hz hb => ?_, fun p o => ?_, fun k hk o => ?_, fun k hk x hx => ?_, fun k hk z hz hb => ?_, fun k hk x hx z hz hb => ?_, fun p k hk x hx => ?_, fun p k hc => Nat.lt_succ_of_lt (h.cm p k hc)⟩
  · rcases hcase k hk with hk | rfl
    · rw [hbo k hk, htold]; split
      · rename_i e; rw [← e]; exact List.mem_append_left _ (h.own k hk)
      · exact h.own k hk
    · rw [hbn, htold, if_pos rfl]; simp
  · rw [htold] at hx ⊢
    by_cases e : p = i
    · rw [if_pos e] at hx ⊢
      rcases List.mem_append.1 hx with hx | hx
      · have hxm := hB.told i x hx
        rw [hbo x hxm, hbo z (by omega)] at hb
        exact List.mem_append_left _ (h.dc i x hx z hz hb)
      · rw [List.mem_singleton] at hx
        subst hx
        rw [hbn, hbo z hz] at hb
        exact List.mem_append_left _ (by rw [← hb]; exact h.own z hz)
    · rw [if_neg e] at hx ⊢
      have hxm := hB.told p x hx
      rw [hbo x hxm, hbo z (by omega)] at hb
      exact h.dc p x hx z hz hb
  · show upd s.clock i (upd (s.clock i) ((sendC i s).by_ s.m) (s.clock i ((sendC i s).by_ s.m) + 1)) p o = _
    rw [hbn, htold, upd_apply]
    split
    · rename_i e
      rw [upd_apply]
      show _ = (fromO (sendC i s).by_ o (s.told i ++ [s.m])).length
      rw [fromO_app, hfo o (s.told i) (fun x hx => hB.told i x hx), h.cnt i o, h.cnt i i, hbn]
      by_cases e : o = i
      · subst e
        rw [if_pos rfl, if_pos rfl]
      · rw [if_neg e, if_neg (fun h => e h.symm)]; rfl
    · rw [hfo o (s.told p) (fun x hx => hB.told p x hx)]; exact h.cnt p o
  · rcases hcase k hk with hk | rfl
    · have e1 : (sendC i s).ahead k o = s.ahead k o := by
        show upd s.ahead s.m (s.clock i) k o = _
        rw [upd_ne _ _ (by omega)]
      rw [e1, hbo k hk, hbef k hk, hfo o _ (fun x hx => hB.told _ x (bef_mem hx))]
      exact h.ah k hk o
    · have e1 : (sendC i s).ahead s.m o = s.clock i o := by
        show upd s.ahead s.m (s.clock i) s.m o = _
        rw [upd_same]
      rw [e1, hbn, hbm, hfo o _ (fun x hx => hB.told _ x hx)]
      exact h.cnt i o
  · rcases hcase k hk with hk | rfl
    · rw [hbo k hk, hbef k hk] at hx; exact h.lt k hk x hx
    · rw [hbn, hbm] at hx; exact hB.told i x hx
  · rcases hcase k hk with hk | rfl
    · rw [hbo k hk, hbo z (by omega)] at hb
      rw [hbo k hk, hbef k hk]; exact h.ob k hk z hz hb
    · rw [hbn, hbo z hz] at hb
      rw [hbn, hbm, ← hb]; exact h.own z hz
  · rcases hcase k hk with hk | rfl
    · rw [hbo k hk, hbef k hk] at hx ⊢
      have hxm := hB.told _ x (bef_mem hx)
      rw [hbo x hxm, hbo z (by omega)] at hb
      exact h.bd k hk x hx z hz hb
    · rw [hbn, hbm] at hx ⊢
      have hxm := hB.told _ x hx
      rw [hbo x hxm, hbo z (by omega)] at hb
      exact h.dc i x hx z hz hb
  · by_cases hkm : k = s.m
    · subst hkm
      have e : p = i := by
        rw [htold] at hk
        split at hk
        · assumption
        · exact absurd hk (hmi p)
      subst e
      rw [hbn] at hx; exact hx
    · have hko : k ∈ s.told p := by
        rw [htold] at hk
        split at hk
        · rename_i e; subst e
          rcases List.mem_append.1 hk with hk | hk
          · exact hk
          · exact absurd (List.mem_singleton.1 hk) hkm
        · exact hk
      have hk2 := hB.told p k hko
      rw [hbo k hk2, hbef k hk2] at hx
      have := h.ord p k hko x hx
      rw [htold]; split
      · rename_i e; subst e
        rw [bef_old _ hko]; exact this
      · exact this
theorem CJ.mark {n i k : Nat} {s : CaS} (h : CJ n s) (hk : k < s.m) : CJ n (markC i k s) :=
  ⟨h.own, h.dc, h.cnt, h.ah, h.lt, h.ob, h.bd, h.ord, fun p q hq => by
    have hq : upd s.come i (upd (s.come i) k true) p q = true := hq
    rw [upd_apply] at hq
    split at hq
    · rw [upd_apply] at hq
      split at hq
      · rename_i e; rw [e]; exact hk
      · exact h.cm i q hq
    · exact h.cm p q hq⟩
theorem CaB.mark {n j i k : Nat} {s : CaS} (h : CaB n j s) : CaB n j (markC i k s) := ⟨h.m, h.by_, h.told, h.nd, h.clock, h.ahead⟩
theorem CJ.step {n j : Nat} {k f t v : Int} {s : CaS} (h : CJ n s) (hB : CaB n j s) : CJ n (caStep n k f t v s).2 := by
  unfold caStep
  split
  · split
    · exact h.send hB
    · exact h
  · split
    · split
      · split
        · rename_i hv
          have hv : 0 ≤ v ∧ v < s.m := by simpa [inB] using hv
          split
          · exact h
          · exact CJ.settle hB.mark (h.mark (show v.toNat < s.m by omega))
        · exact h
      · exact h
    · exact h
theorem caE_J (n : Nat) (M : Mv) : ∀ j, CJ n (caE n M j)
  | 0 => ⟨fun k hk => absurd hk (by show ¬ k < 0; omega), fun p x hx => by have hx : x ∈ ([] : List Nat) := hx; simp at hx, fun p o => rfl, fun k hk => absurd hk (by show ¬ k < 0; omega), fun k hk => absurd hk (by show ¬ k < 0; omega), fun k hk => absurd hk (by show ¬ k < 0; omega), fun k hk => absurd hk (by show ¬ k < 0; omega), fun p k hk => by have hk : k ∈ ([] : List Nat) := hk; simp at hk, fun p k hc => by have hc : false = true := hc; cases hc⟩
  | j + 1 => (caE_J n M j).step (caE_B n M j)
end Go.Proofs.Ytiljnddjecbmfaa
