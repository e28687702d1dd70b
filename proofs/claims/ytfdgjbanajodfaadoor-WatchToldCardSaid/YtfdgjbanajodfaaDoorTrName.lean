/- The walk of tree.name. -/
import Derived.Test.YtfdgjbanajodfaaDoorTrSplit
import Derived.Test.YtfdgjbanajodfaaDoorWords
set_option linter.unusedVariables false
set_option linter.unusedSimpArgs false
namespace Go.Proofs.YtfdgjbanajodfaaDoor
open Go.RowKit Go.Shelf Go.Lib

attribute [local go_sem] Oper.semAt_some

def badR (r : Nat) : Bool := decide (r < 97) || decide (122 < r)
def okPart (x : List UInt8) : Bool := x != [] && !decide (0 ≤ idxFunc badR true (bs x))
def nameB (s : List UInt8) : Bool := s == [47] || (hasPrefix s [47] && (partsL (s.drop 1)).all okPart)
theorem badR_at (x : Nat) (w : World) : Calls Tryd.prog 34 #[.int .i32 (x : Nat)] w fun e w' => e = .returned (.bool (badR x)) ∧ w' = w := by
  have hb : badR x = (decide (x < 97) || decide (122 < x)) := rfl
  rw [hb]
  by_cases h1 : x < 97
  · go_enter Tryd.func34, Tryd.ntmps34
    go_wp2
    go_ret
    exact ⟨ret_bool (by simp [h1]), rfl⟩
  · by_cases h2 : 122 < x
    · go_enter Tryd.func34, Tryd.ntmps34
      go_wp2
      go_ret
      exact ⟨ret_bool (by simp [h1, h2]; omega), rfl⟩
    · go_enter Tryd.func34, Tryd.ntmps34
      go_wp2
      go_ret
      exact ⟨ret_bool (by simp [h1, h2]; omega), rfl⟩
theorem badR_runes (w : World) : PredAtRunes Tryd.prog 34 #[] badR w := by
  intro W x _ _
  show Calls _ _ _ W _
  refine (badR_at x W).mono ?_
  rintro e w' ⟨rfl, rfl⟩
  exact ⟨rfl, 0, rfl⟩
theorem contains_any (x : List UInt8) (w : World) : Calls Tryd.prog 33 #[.string (bs x), .func (.func 34) #[] #[]] w fun e w' => e = .returned (.bool (decide (0 ≤ idxFunc badR true (bs x)))) ∧ Below w.heap.size w w' :=
  Tryd.strings_ContainsFunc_runes 34 #[] (fun _ _ => rfl) badR (bs x) w (badR_runes w)
/-- The world behind strings.SplitSeq: three blocks. -/
def splitW (s sep : ByteArray) (w : World) : World := ((w.alloc (.cells #[.string s] 9)).alloc (.cells #[.string sep] 9)).alloc (.cells #[.int .i64 0] 3)
theorem splitSeq_any (s sep : ByteArray) (w : World) : Calls Tryd.prog 32 #[.string s, .string sep] w fun e w' => e = .returned (.func (.func 44) #[] #[.pointer (some ⟨w.heap.size + 1, 0, none⟩), .pointer (some ⟨w.heap.size, 0, none⟩), .pointer (some ⟨w.heap.size + 2, 0, none⟩)]) ∧ w' = splitW s sep w := by
  go_enter Tryd.func32, Tryd.ntmps32
  go_wp2
  go_ret
  exact ⟨rfl, rfl⟩
theorem trim_one (t : List UInt8) : trimPrefix (47 :: t) [47] = t := by simp [trimPrefix, hasPrefix, List.isPrefixOf]
theorem cut_any (s : List UInt8) (w : World) : Calls Tryd.prog 31 #[.string (bs s), .string ⟨#[47]⟩] w fun e w' => e = .returned (.tuple #[.string (bs (trimPrefix s [47])), .bool (hasPrefix s [47])]) ∧ w' = w :=
  Tryd.strings_CutPrefix (bs s) ⟨#[47]⟩ w
theorem bs_inj {a b : List UInt8} (h : bs a = bs b) : a = b := by
  have := congrArg (fun x : ByteArray => x.data.toList) h
  simpa [bs] using this
theorem one_heap {W : World} {b : Nat} {v : Value} {t : TypeId} (h : W.heap[b]? = some (.cells #[v] t)) : W.cell? ⟨b, 0, none⟩ = some v ∧ W.frozen? ⟨b, 0, none⟩ = false := by
  constructor
  · simp [World.cell?, h]
  · simp [World.frozen?, h]
theorem bs_toList (l : List UInt8) : (bs l).toList = l := ByteArray.toList_eq _
/-- Between two rounds. -/
structure NmI (w : World) (pre : List (List UInt8)) (W : World) : Prop where
  all : ∀ x ∈ pre, okPart x = true
  bel : Below w.heap.size w W
  cell : W.cell? ⟨w.heap.size, 0, none⟩ = some (.bool false)
  frz : W.frozen? ⟨w.heap.size, 0, none⟩ = false
structure NmX (w : World) (ps : List (List UInt8)) (W : World) : Prop where
  no : ps.all okPart = false
  bel : Below w.heap.size w W
  cell : W.cell? ⟨w.heap.size, 0, none⟩ = some (.bool false)
set_option maxRecDepth 100000 in
set_option maxHeartbeats 2000000 in
theorem name_any (s : List UInt8) (w : World) (hs : s.length ≤ 140737488351232) : Calls Tryd.prog 24 #[.string (bs s)] w fun e w' => e = .returned (.bool (nameB s)) ∧ Below w.heap.size w w' := by
  by_cases h1 : s = [47]
  · subst h1
    have e1 : ((bs [47]).toList == [47]) = true := by rw [bs_toList]; rfl
    go_enter Tryd.func24, Tryd.ntmps24
    go_wp2
    refine bodyPost_ret (v := .bool true) (by simp [results, Tryd.results24, go_sem]) rfl ?_
    exact ⟨rfl, (Below.refl _ _).alloc (Nat.le_refl _) _⟩
  · have e1 : ((bs s).toList == [47]) = false := by
      rw [bs_toList]; simpa using h1
    by_cases h2 : hasPrefix s [47] = true
    · obtain ⟨t, rfl⟩ : ∃ t, s = 47 :: t := by
        cases s with
        | nil => cases h2
        | cons c t =>
          have h3 : ((47 : UInt8) == c && List.isPrefixOf [] t) = true := h2
          rw [Bool.and_eq_true] at h3
          have h4 := eq_of_beq h3.1
          exact ⟨t, by rw [← h4]⟩
      have hpre : hasPrefix (47 :: t) [47] = true := h2
      have hN : nameB (47 :: t) = (partsL t).all okPart := by
        have h1' : ((47 :: t : List UInt8) == [47]) = false := by simpa using h1
        unfold nameB
        rw [h1', hpre]; rfl
      refine (callsIn_wide (n := 3)).1 ?_
      refine callsIn_of_wp_marks Tryd.func24 rfl trivial ?_ rfl
      simp only [Tryd.ntmps24, List.size_toArray, List.length_cons, List.length_nil, Nat.reduceAdd, Nat.reduceSub, Array.replicate_succ, Array.replicate_zero, List.push_toArray, List.append_toArray, List.nil_append, List.cons_append]
      gi_wp2
      refine ⟨trivial, (callsIn_wide.2 (cut_any _ _)).mono ?_⟩
      rintro e w' ⟨rfl, rfl⟩
      rw [trim_one, hpre]
      gi_wp2
      refine ⟨trivial, (callsIn_wide.2 (splitSeq_any (bs t) ⟨#[47]⟩ _)).mono ?_⟩
      rintro e w' ⟨rfl, rfl⟩
      gi_wp2
      obtain ⟨W0, hW0⟩ : ∃ W0, W0 = splitW (bs t) ⟨#[47]⟩ (w.alloc (.cells #[.bool false] 4)) := ⟨_, rfl⟩
      rw [← hW0]
      have hsz : W0.heap.size = w.heap.size + 4 := by rw [hW0]; simp [splitW]
      have g0 : W0.heap[w.heap.size]? = some (.cells #[.bool false] 4) := by
        rw [hW0]; unfold splitW
        rw [Below.heap_alloc _ _ _ (by simp only [World.size_alloc]; omega), Below.heap_alloc _ _ _ (by simp only [World.size_alloc]; omega), Below.heap_alloc _ _ _ (by simp only [World.size_alloc]; omega)]
        exact World.alloc_heap_new w _
      have g1 : W0.heap[w.heap.size + 1]? = some (.cells #[.string (bs t)] 9) := by
        rw [hW0]; unfold splitW
        rw [Below.heap_alloc _ _ _ (by simp only [World.size_alloc]; omega), Below.heap_alloc _ _ _ (by simp only [World.size_alloc]; omega)]
        have := World.alloc_heap_new (w.alloc (.cells #[.bool false] 4)) (.cells #[.string (bs t)] 9)
        rwa [World.size_alloc] at this
      have g2 : W0.heap[w.heap.size + 1 + 1]? = some (.cells #[.string ⟨#[47]⟩] 9) := by
        rw [hW0]; unfold splitW
        rw [Below.heap_alloc _ _ _ (by simp only [World.size_alloc]; omega)]
        have := World.alloc_heap_new ((w.alloc (.cells #[.bool false] 4)).alloc (.cells #[.string (bs t)] 9)) (.cells #[.string ⟨#[47]⟩] 9)
        rwa [World.size_alloc, World.size_alloc] at this
      have g3 : W0.heap[w.heap.size + 1 + 2]? = some (.cells #[.int .i64 0] 3) := by
        rw [hW0]; unfold splitW
        have := World.alloc_heap_new (((w.alloc (.cells #[.bool false] 4)).alloc (.cells #[.string (bs t)] 9)).alloc (.cells #[.string ⟨#[47]⟩] 9)) (.cells #[.int .i64 0] 3)
        rwa [World.size_alloc, World.size_alloc, World.size_alloc] at this
      obtain ⟨c0, z0⟩ := one_heap g0
      obtain ⟨c1, z1⟩ := one_heap g1
      have c2 := (one_heap g2).1
      have c3 := (one_heap g3).1
      clear g0 g1 g2 g3
      have hB0 : Below w.heap.size w W0 := by
        rw [hW0]; unfold splitW
        exact ((((Below.refl _ w).alloc (Nat.le_refl _) _).alloc (by simp) _).alloc (by simp; omega) _).alloc (by simp; omega) _
      clear hW0
      refine wpIn_split (n := 3) (w.heap.size + 1 + 1) (w.heap.size + 1) (w.heap.size + 1 + 2) t (by simp at hs; omega) rfl c2 c1 c3 z1 (by omega) (by omega) ⟨by omega, by omega, by omega⟩
        (NmI w) (NmX w (partsL t))
        (fun pre W W' h hb => ⟨h.all, h.bel.trans ⟨hb.os, hb.tape, hb.output, hb.size, fun k hk => hb.block k (by omega) (by omega)⟩, (World.cell?_of_block (hb.block w.heap.size (by omega) (by omega))).trans h.cell, (World.frozen?_of_block (hb.block w.heap.size (by omega) (by omega))).trans h.frz⟩)
        (fun W W' h hb => ⟨h.no, h.bel.trans ⟨hb.os, hb.tape, hb.output, hb.size, fun k hk => hb.block k (by omega) (by omega)⟩, (World.cell?_of_block (hb.block w.heap.size (by omega) (by omega))).trans h.cell⟩)
        ⟨fun x hx => absurd hx (by simp), hB0, c0, z0⟩
        (fun x => { tmps := #[.string (bs (47 :: t)), undef, .pointer (some ⟨w.heap.size, 0, none⟩), .string (bs t), .bool true, .string (bs x), .string (bs (47 :: t)), .bool false, .tuple #[.string (bs t), .bool true], .string (bs (47 :: t)), .tuple #[.string (bs t), .bool true], .string (bs t), .bool true, .bool true, .bool false, .string (bs t), .func (.func 44) #[] #[.pointer (some ⟨w.heap.size + 1 + 1, 0, none⟩), .pointer (some ⟨w.heap.size + 1, 0, none⟩), .pointer (some ⟨w.heap.size + 1 + 2, 0, none⟩)], .string (bs x), undef, undef, undef, undef, undef, undef], defers := [] }) ?assign ?body ?done ?stop
      case assign =>
        intro l x W K hK
        gi_wp2
        exact hK
      case body =>
        rintro pre x r W hpx hI hlt
        have HI := Lib.hid hI
        have k3 := hI.cell
        have k4 := hI.frz
        have HS := Lib.hid hsz
        clear hI hsz
        have hall : okPart x = false → (partsL t).all okPart = false := fun h => by rw [hpx]; simp [h]
        by_cases hx : x = []
        · have hxe : (bs x).toList.isEmpty = true := by rw [bs_toList, hx]; rfl
          have hbad := Lib.hid (hall (by rw [hx]; rfl))
          clear hx hall hpx
          gi_wp2
          refine ⟨trivial, ?_⟩
          gi_wp2
          have hz := HS.out
          exact ⟨⟨Below.heap_setCell _ _ _ _ (by show W0.heap.size ≠ w.heap.size; omega), Below.heap_setCell _ _ _ _ (by show W0.heap.size + 1 ≠ w.heap.size; omega)⟩, hbad.out, HI.out.bel.setCell (p := ⟨w.heap.size, 0, none⟩) (Nat.le_refl _) _, World.cell?_setCell_same' _ _ _ (by rw [k3]; rfl)⟩
        · have hxe : (bs x).toList.isEmpty = false := by
            rw [bs_toList]
            cases x with
            | nil => exact absurd rfl hx
            | cons => rfl
          have hok : okPart x = !decide (0 ≤ idxFunc badR true (bs x)) := by
            unfold okPart
            have : (x != []) = true := by simpa using hx
            rw [this]; rfl
          clear hx
          gi_wp2
          refine ⟨trivial, (CallsIn.inRound _ (callsIn_wide.2 (contains_any x W))).mono ?_⟩
          rintro e W' ⟨rfl, hb⟩
          have hz := HS.out
          have q2 := Lib.hid (HI.out.bel.trans (hb.mono (by omega)))
          have q3 := (hb.cell (p := ⟨w.heap.size, 0, none⟩) (by show w.heap.size < W.heap.size; omega)).trans k3
          have q4 := (hb.frozen (p := ⟨w.heap.size, 0, none⟩) (by show w.heap.size < W.heap.size; omega)).trans k4
          have HL := Lib.hid (And.intro (hb.block W0.heap.size (by omega)) (hb.block (W0.heap.size + 1) (by omega)))
          have HB := Lib.hid (hb.mono (show W0.heap.size ≤ W.heap.size by omega))
          clear hb hz
          by_cases hi : 0 ≤ idxFunc badR true (bs x)
          · have hbad := Lib.hid (hall (by rw [hok]; simp [hi]))
            clear hok hall hpx
            gi_wp2
            have hz := HS.out
            exact ⟨⟨(Below.heap_setCell _ _ _ _ (by show W0.heap.size ≠ w.heap.size; omega)).trans HL.out.1, (Below.heap_setCell _ _ _ _ (by show W0.heap.size + 1 ≠ w.heap.size; omega)).trans HL.out.2⟩, hbad.out, q2.out.setCell (p := ⟨w.heap.size, 0, none⟩) (Nat.le_refl _) _, World.cell?_setCell_same' _ _ _ (by rw [q3]; rfl)⟩
          · have hgood := Lib.hid (show okPart x = true by rw [hok]; simp; omega)
            clear hok hall
            gi_wp2
            exact ⟨HB.out, HL.out, fun y hy => (List.mem_append.1 hy).elim (HI.out.all y) (fun h => by rw [List.mem_singleton.1 h]; exact hgood.out), q2.out, q3, q4⟩
      case done =>
        rintro D W ⟨k1, k2, k3, k4⟩ hD rfl
        gi_wp2
        refine ⟨by simp, .inl ⟨_, _, rfl, run_takeDeferred (setCell_other_obj hD (by omega) _), ?_⟩⟩
        have hc : ((W.setCell ⟨w.heap.size, 0, none⟩ (.bool true)).putObj W0.heap.size (.deferred none)).cell? ⟨w.heap.size, 0, none⟩ = some (.bool true) :=
          (World.cell?_of_block (World.putObj_heap_other (by show w.heap.size ≠ W0.heap.size; omega))).trans (World.cell?_setCell_same' _ _ _ (by rw [k3]; rfl))
        have hall : nameB (47 :: t) = true := by rw [hN]; exact List.all_eq_true.2 k1
        refine ⟨.bool true, by simp [results, Tryd.results24, go_sem, hc], by rw [hall], ?_⟩
        exact (k2.setCell (p := ⟨w.heap.size, 0, none⟩) (Nat.le_refl _) _).trans ⟨rfl, rfl, rfl, by simp, fun k hk => World.putObj_heap_other (by omega)⟩
      case stop =>
        rintro D W ⟨k1, k2, k3⟩ hD rfl
        gi_wp2
        refine ⟨by simp, .inl ⟨_, _, rfl, run_takeDeferred hD, ?_⟩⟩
        have hc : (W.putObj W0.heap.size (.deferred none)).cell? ⟨w.heap.size, 0, none⟩ = some (.bool false) :=
          (World.cell?_of_block (World.putObj_heap_other (by show w.heap.size ≠ W0.heap.size; omega))).trans k3
        refine ⟨.bool false, by simp [results, Tryd.results24, go_sem, hc], by rw [hN, k1], ?_⟩
        exact k2.trans ⟨rfl, rfl, rfl, by simp, fun k hk => World.putObj_heap_other (by omega)⟩
    · have h2' : hasPrefix s [47] = false := by simpa using h2
      have hcut := cut_any s
      rw [h2'] at hcut
      go_enter Tryd.func24, Tryd.ntmps24
      go_wp2_with (go_at_call 31; refine (hcut _).mono ?_; rintro e w' ⟨rfl, rfl⟩)
      refine bodyPost_ret (v := .bool false) (by simp [results, Tryd.results24, go_sem]) rfl ?_
      exact ⟨by simp [nameB, h1, h2'], (Below.refl _ _).alloc (Nat.le_refl _) _⟩
end Go.Proofs.YtfdgjbanajodfaaDoor
