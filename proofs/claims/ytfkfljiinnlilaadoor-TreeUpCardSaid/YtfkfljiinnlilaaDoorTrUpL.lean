/- Names: as the document says them; the parent of a name that is there is there and lists it: plain. -/
import Derived.Test.YtfkfljiinnlilaaDoorTrRef
import Derived.Laws.RangeString
import Derived.Laws.RangeAny
set_option linter.unusedVariables false
set_option linter.unusedSimpArgs false
namespace Go.Proofs.YtfkfljiinnlilaaDoor
open Go.RowKit Go.Lib Go.Shelf

def letB (c : UInt8) : Bool := decide (97 ≤ c.toNat) && decide (c.toNat ≤ 122)
theorem badR_let (c : UInt8) : badR c.toNat = !letB c := by
  unfold badR letB
  by_cases h1 : c.toNat < 97
  · simp [h1]
  · by_cases h2 : 122 < c.toNat
    · simp [h1, h2]
    · simp [h1, h2]; omega
theorem idx_bad (s : ByteArray) : ∀ f pos, s.size ≤ f + pos → (0 ≤ idxFuncFrom badR true s f pos ↔ ∃ (j : Nat) (h : j < s.size), pos ≤ j ∧ badR (s[j]'h).toNat = true) := by
  intro f
  induction f with
  | zero =>
    intro pos h
    refine ⟨fun h1 => absurd h1 (by unfold idxFuncFrom; omega), fun ⟨j, h1, h2, _⟩ => by omega⟩
  | succ f ih =>
    intro pos h
    unfold idxFuncFrom
    by_cases hp : pos < s.size
    · rw [if_pos hp]
      by_cases ha : (s[pos]'hp).toNat < 128
      · rw [decode_ascii s pos hp ha]
        by_cases hb : badR (s[pos]'hp).toNat = true
        · rw [if_pos hb]
          exact ⟨fun _ => ⟨pos, hp, Nat.le_refl _, hb⟩, fun _ => by omega⟩
        · rw [if_neg hb, ih (pos + 1) (by omega)]
          constructor
          · rintro ⟨j, h1, h2, h3⟩; exact ⟨j, h1, by omega, h3⟩
          · rintro ⟨j, h1, h2, h3⟩
            refine ⟨j, h1, ?_, h3⟩
            rcases Nat.lt_or_ge pos j with h4 | h4
            · exact h4
            · obtain rfl : j = pos := by omega
              exact absurd h3 hb
      · have hd := (decode_high s pos hp (by omega)).1
        have hb : badR (Utf8.decode s pos).1 = true := by
          unfold badR
          have : 122 < (Utf8.decode s pos).1 := by omega
          simp [this]
        rw [if_pos hb]
        refine ⟨fun _ => ⟨pos, hp, Nat.le_refl _, ?_⟩, fun _ => by omega⟩
        unfold badR
        have : 122 < (s[pos]'hp).toNat := by omega
        simp [this]
    · rw [if_neg hp]
      exact ⟨fun h1 => absurd h1 (by omega), fun ⟨j, h1, h2, _⟩ => by omega⟩
theorem okPart_is (x : Str) : okPart x = (x != [] && x.all letB) := by
  unfold okPart
  congr 1
  have h := idx_bad (bs x) (bs x).size 0 (by omega)
  by_cases ha : x.all letB = true
  · rw [ha]
    have : ¬ 0 ≤ idxFunc badR true (bs x) := fun h1 => by
      obtain ⟨j, hj, -, hb⟩ := h.1 h1
      have hj2 : j < x.length := by rwa [bs_size] at hj
      have e : (bs x)[j]'hj = x[j] := rfl
      rw [e, badR_let] at hb
      have := List.all_eq_true.1 ha _ (List.getElem_mem hj2)
      rw [this] at hb; cases hb
    simp [this]
  · have ha : x.all letB = false := by simpa using ha
    rw [ha]
    obtain ⟨c, hc, hb⟩ := List.all_eq_false.1 ha
    obtain ⟨j, hj, rfl⟩ := List.mem_iff_getElem.1 hc
    have hj2 : j < (bs x).size := by rw [bs_size]; exact hj
    have : 0 ≤ idxFunc badR true (bs x) := h.2 ⟨j, hj2, by omega, by
      have e : (bs x)[j]'hj2 = x[j] := rfl
      have hb' : letB x[j] = false := Bool.eq_false_iff.mpr hb
      rw [e, badR_let, hb']; rfl⟩
    simp [this]
def NN : Bool → Str → Bool
  | b, [] => b
  | b, c :: t => if c = 47 then b && NN false t else letB c && NN true t
theorem nn_parts : ∀ (t : Str) (b : Bool), NN b t = match partsL t with | [] => true | h :: r => (b || h != []) && h.all letB && r.all okPart
  | [], b => by simp [NN, partsL]
  | c :: t, b => by
    have h0 := nn_parts t false
    have h1 := nn_parts t true
    unfold NN partsL
    by_cases hc : c = 47
    · rw [if_pos hc, if_pos hc, h0]
      cases hp : partsL t with
      | nil => exact absurd hp (parts_ne t)
      | cons h r => simp [okPart_is, Bool.and_assoc]
    · rw [if_neg hc, if_neg hc, h1]
      cases hp : partsL t with
      | nil => exact absurd hp (parts_ne t)
      | cons h r => simp [Bool.and_assoc]
theorem nn_false (t : Str) : NN false t = (partsL t).all okPart := by
  rw [nn_parts]
  cases hp : partsL t with
  | nil => exact absurd hp (parts_ne t)
  | cons h r => simp [okPart_is]
theorem byteN_cons (c : UInt8) (t : Str) (i : Nat) : byteN (c :: t) (i + 1) = byteN t i := rfl
theorem byteN_zero (c : UInt8) (t : Str) : byteN (c :: t) 0 = c.toNat := rfl
theorem byte47 (c : UInt8) : c.toNat = 47 ↔ c = 47 := ⟨fun h => UInt8.toNat_inj.1 h, fun h => by rw [h]; rfl⟩
theorem okAt_cons (c0 c : UInt8) (t : Str) (i : Nat) : okAt (c0 :: c :: t) (i + 1 + 1) = okAt (c :: t) (i + 1) := by
  unfold okAt
  rw [byteN_cons, Nat.add_sub_cancel, Nat.add_sub_cancel, byteN_cons]
  by_cases h : byteN t i = 47
  · rw [if_pos h, if_pos h]; simp [byteN_cons]; rfl
  · rw [if_neg h, if_neg h]
theorem okAt_one (c0 c : UInt8) (t : Str) : okAt (c0 :: c :: t) 1 = if c = 47 then (c0 != 47) else letB c := by
  have h := byte47 c
  have h0 := byte47 c0
  unfold okAt
  rw [show (1 : Nat) = 0 + 1 from rfl, byteN_cons, Nat.add_sub_cancel, byteN_zero, byteN_zero]
  by_cases hc : c = 47
  · rw [if_pos (h.2 hc), if_pos hc]
    by_cases h1 : c0 = 47
    · simp [h1]
    · have : ¬ c0.toNat = 47 := fun e => h1 (h0.1 e)
      simp [h1, this]
  · rw [if_neg (fun e => hc (h.1 e)), if_neg hc]; rfl
theorem nn_ref : ∀ (t : Str) (c0 : UInt8), NN (c0 != 47) t = true ↔ byteN (c0 :: t) t.length ≠ 47 ∧ ∀ i, i < t.length → okAt (c0 :: t) (i + 1) = true
  | [], c0 => by
    have h0 := byte47 c0
    show (c0 != 47) = true ↔ byteN [c0] 0 ≠ 47 ∧ _
    rw [byteN_zero]
    constructor
    · intro h; exact ⟨fun e => (by rw [h0.1 e] at h; cases h), fun i hi => absurd hi (by simp)⟩
    · rintro ⟨h, -⟩
      have : ¬ c0 = 47 := fun e => h (h0.2 e)
      simpa using this
  | c :: t, c0 => by
    have ih := nn_ref t c
    have e1 : NN (c0 != 47) (c :: t) = ((if c = 47 then (c0 != 47) else letB c) && NN (c != 47) t) := by
      show (if c = 47 then (c0 != 47) && NN false t else letB c && NN true t) = _
      by_cases hc : c = 47
      · rw [if_pos hc, if_pos hc, show (c != 47) = false by simp [hc]]
      · rw [if_neg hc, if_neg hc, show (c != 47) = true by simp [hc]]
    rw [e1, Bool.and_eq_true, ih, ← okAt_one c0 c t]
    show _ ↔ byteN (c :: t) t.length ≠ 47 ∧ _
    constructor
    · rintro ⟨h1, h2, h3⟩
      refine ⟨h2, fun i hi => ?_⟩
      cases i with
      | zero => exact h1
      | succ i => rw [okAt_cons]; exact h3 i (by simp at hi; omega)
    · rintro ⟨h2, h3⟩
      refine ⟨h3 0 (by simp), h2, fun i hi => ?_⟩
      have := h3 (i + 1) (by simp; omega)
      rwa [okAt_cons] at this
theorem name_is (s : Str) : nameB s = refB s := by
  cases s with
  | nil => rfl
  | cons c t =>
    by_cases hc : c = 47
    · subst hc
      have hh : hasPrefix (47 :: t) [47] = true := by simp [hasPrefix, List.isPrefixOf]
      have h1 : nameB (47 :: t) = ((47 :: t) == ([47] : Str) || NN false t) := by
        unfold nameB
        rw [hh, nn_false]; rfl
      have h2 := nn_ref t 47
      rw [h1]
      unfold refB
      congr 1
      have hb0 : byteN (47 :: t) 0 = 47 := rfl
      have hl : (47 :: t : Str).length - 1 = t.length := by simp
      rw [hl]
      have key : NN false t = true ↔ ((47 :: t : Str) != [] && decide (byteN (47 :: t) 0 = 47) && decide (byteN (47 :: t) t.length ≠ 47) && (List.range (47 :: t : Str).length).all (okAt (47 :: t))) = true := by
        rw [show NN false t = NN ((47 : UInt8) != 47) t from rfl, h2]
        simp only [Bool.and_eq_true, decide_eq_true_eq, List.all_eq_true, List.mem_range]
        constructor
        · rintro ⟨a, b⟩
          refine ⟨⟨⟨rfl, hb0⟩, a⟩, fun i hi => ?_⟩
          cases i with
          | zero => unfold okAt; rw [if_pos hb0]; rfl
          | succ i => exact b i (by simp at hi; omega)
        · rintro ⟨⟨_, a⟩, b⟩
          exact ⟨a, fun i hi => b (i + 1) (by simp; omega)⟩
      exact Bool.eq_iff_iff.2 key
    · have hh : hasPrefix (c :: t) [47] = false := by
        have : ((47 : UInt8) == c) = false := by simpa using fun e => hc e.symm
        simp [hasPrefix, List.isPrefixOf, this]
      have hb : ¬ byteN (c :: t) 0 = 47 := fun e => hc ((byte47 c).1 e)
      unfold nameB refB
      rw [hh]
      simp [hb]
/-- A name that is not the root begins with a slash, and its last slash is no second one. -/
theorem name_shape {s : Str} (h : nameB s = true) (hr : s ≠ [47]) : s[0]? = some 47 ∧ lastI s ≠ 1 := by
  rw [name_is] at h
  have e : (s == [47]) = false := by simpa using hr
  unfold refB at h
  rw [e, Bool.false_or] at h
  simp only [Bool.and_eq_true, decide_eq_true_eq, List.all_eq_true, List.mem_range] at h
  obtain ⟨⟨⟨h1, h2⟩, h3⟩, h4⟩ := h
  have hne : s ≠ [] := by simpa using h1
  have hlen : 0 < s.length := List.length_pos_iff.2 hne
  have h0 := (byteN_is hlen).1 h2
  refine ⟨h0, fun e1 => ?_⟩
  obtain ⟨-, l1, l2, -⟩ := lastI_is (List.mem_of_getElem? h0)
  rw [e1] at l1 l2
  have h5 := h4 1 l1
  unfold okAt at h5
  rw [if_pos ((byteN_is l1).2 l2)] at h5
  simp [h2] at h5
theorem lst_inj {s t : Str} (hs : nameB s = true) (ht : nameB t = true) (hs1 : s ≠ [47]) (ht1 : t ≠ [47]) (hp : parL s = parL t) (hl : lstL s = lstL t) : s = t := by
  obtain ⟨s0, s1⟩ := name_shape hs hs1
  obtain ⟨t0, t1⟩ := name_shape ht ht1
  obtain ⟨-, a1, a2, -⟩ := lastI_is (List.mem_of_getElem? s0)
  obtain ⟨-, b1, b2, -⟩ := lastI_is (List.mem_of_getElem? t0)
  have es : s = s.take (lastI s) ++ 47 :: lstL s := by
    have h1 := (List.take_append_drop (lastI s) s).symm
    rw [List.drop_eq_getElem_cons a1] at h1
    have h2 : s[lastI s] = 47 := by
      rw [List.getElem?_eq_getElem a1] at a2; injection a2
    rw [h2] at h1
    exact h1
  have et : t = t.take (lastI t) ++ 47 :: lstL t := by
    have h1 := (List.take_append_drop (lastI t) t).symm
    rw [List.drop_eq_getElem_cons b1] at h1
    have h2 : t[lastI t] = 47 := by
      rw [List.getElem?_eq_getElem b1] at b2; injection b2
    rw [h2] at h1
    exact h1
  have hlen := congrArg List.length hp
  unfold parL at hlen hp
  rw [List.length_take, List.length_take] at hlen
  have hi : lastI s = lastI t := by omega
  rw [es, et, hl, hi]
  congr 1
  rcases Nat.eq_zero_or_pos (lastI t) with h | h
  · rw [h]; rfl
  · rw [hi, Nat.max_eq_left (by omega)] at hp
    exact hp
theorem nodup_next {st st' : TS} {d : Deed} (h : st.ks.Nodup) (hn : Next st d st') : st'.ks.Nodup := by
  cases hn with
  | same => exact h
  | make c1 c2 c3 c4 =>
    have e : (putS st d.path d.data 0).ks = st.ks ++ [d.path] := if_neg c2
    rw [e, List.nodup_append]
    exact ⟨h, by simp, fun a ha b hb => by
      obtain rfl := List.mem_singleton.1 hb
      exact fun e => c2 (by rw [← e]; exact ha)⟩
  | set c1 =>
    have e : (putS st d.path d.data (st.ver d.path + 1)).ks = st.ks := if_pos c1
    rw [e]; exact h
  | drop c1 c2 c3 => exact h.erase _
theorem run_nodup (D : Nat → Deed) : ∀ j, (runS T0 D j).ks.Nodup
  | 0 => by show ([[47]] : List Str).Nodup; simp
  | j + 1 => nodup_next (run_nodup D j) (next_is _ _)
theorem parts_nodup {ks : List Str} (h : ks.Nodup) (hk : ∀ s ∈ ks, nameB s = true) (p : Str) : (partsOf ks p).Nodup := by
  unfold partsOf
  unfold List.Nodup
  rw [List.pairwise_map]
  have h1 : (ks.filter (isBel p)).Nodup := h.sublist List.filter_sublist
  refine List.Pairwise.imp_of_mem (fun {a b} ha hb hne e => ?_) h1
  obtain ⟨ha1, ha2⟩ := List.mem_filter.1 ha
  obtain ⟨hb1, hb2⟩ := List.mem_filter.1 hb
  unfold isBel at ha2 hb2
  rw [Bool.and_eq_true] at ha2 hb2
  have pa : parL a = p := eq_of_beq ha2.1
  have pb : parL b = p := eq_of_beq hb2.1
  exact hne (lst_inj (hk a ha1) (hk b hb1) (by simpa using ha2.2) (by simpa using hb2.2) (pa.trans pb.symm) e)
theorem srt_strict {l : List Str} (h : l.Nodup) : (srtL l).Pairwise fun x y => x ≤ y ∧ x ≠ y := by
  have h1 := srt_sorted l
  have h2 : (srtL l).Nodup := (List.mergeSort_perm l _).nodup_iff.2 h
  exact List.Pairwise.and h1 h2
structure UpLaw (p : Str) (a b : Ans) : Prop where
  no : a.code ≠ 0 → p ≠ [47] ∧ (a.code = 3 ↔ nameB p = false)
  yes : a.code = 0 → p ≠ [47] → nameB p = true ∧ b.code = 0 ∧ lstL p ∈ b.names ∧ b.names.Pairwise fun x y => x ≤ y ∧ x ≠ y
theorem upLaw {k : Nat} {st : TS} (hT : TrB k st) (hn : st.ks.Nodup) (p : Str) : UpLaw p (doS st ⟨4, p, [], 0⟩).1 (doS st ⟨5, parL p, [], 0⟩).1 := by
  have e4 : doS st ⟨4, p, [], 0⟩ = if nameB p = false then (A0 3, st) else if p ∉ st.ks then (A0 5, st) else (⟨0, st.dat p, st.ver p, []⟩, st) := by
    unfold doS
    rw [if_neg (by show ¬ ((4 : Int) < 1 ∨ (5 : Int) < 4); decide)]
    show (if nameB p = false then _ else _) = _
    by_cases h1 : nameB p = false
    · rw [if_pos h1, if_pos h1]
    rw [if_neg h1, if_neg h1, if_neg (fun h => h.1.elim (fun h => absurd h (show ¬ (4 : Int) = 1 by decide)) (fun h => absurd h (show ¬ (4 : Int) = 2 by decide))), if_neg (by show ¬ (4 : Int) = 1; decide), if_neg (fun h => absurd h.1 (by show ¬ (4 : Int) = 3; decide))]
    show (if p ∉ st.ks then _ else _) = _
    by_cases h2 : p ∉ st.ks
    · rw [if_pos h2, if_pos h2]
    rw [if_neg h2, if_neg h2, if_pos rfl]
  rw [e4]
  by_cases h1 : nameB p = false
  · rw [if_pos h1]
    refine ⟨fun _ => ⟨fun e => by rw [e] at h1; exact absurd h1 (by decide), ⟨fun _ => h1, fun _ => rfl⟩⟩, fun h => absurd h (by simp [A0])⟩
  rw [if_neg h1]
  by_cases h2 : p ∉ st.ks
  · rw [if_pos h2]
    refine ⟨fun _ => ⟨fun e => h2 (by rw [e]; exact hT.root), ⟨fun h => absurd h (by simp [A0]), fun h => absurd h h1⟩⟩, fun h => absurd h (by simp [A0])⟩
  rw [if_neg h2]
  have hin : p ∈ st.ks := Classical.not_not.1 h2
  refine ⟨fun h => absurd rfl h, fun _ hr => ?_⟩
  have hup := hT.up p hin
  have e5 : doS st ⟨5, parL p, [], 0⟩ = (⟨0, [], st.ver (parL p), srtL (partsOf st.ks (parL p))⟩, st) := by
    unfold doS
    rw [if_neg (by show ¬ ((5 : Int) < 1 ∨ (5 : Int) < 5); decide), if_neg (by show ¬ nameB (parL p) = false; rw [(hT.key _ hup).1]; decide), if_neg (fun h => h.1.elim (fun h => absurd h (show ¬ (5 : Int) = 1 by decide)) (fun h => absurd h (show ¬ (5 : Int) = 2 by decide))),
      if_neg (by show ¬ (5 : Int) = 1; decide), if_neg (fun h => absurd h.1 (by show ¬ (5 : Int) = 3; decide)), if_neg (not_not_intro hup), if_neg (by show ¬ (5 : Int) = 4; decide), if_pos rfl]
  rw [e5]
  exact ⟨by simpa using h1, rfl, srt_mem.2 (mem_partsOf hin rfl hr), srt_strict (parts_nodup hn (fun s hs => (hT.key s hs).1) _)⟩
end Go.Proofs.YtfkfljiinnlilaaDoor
