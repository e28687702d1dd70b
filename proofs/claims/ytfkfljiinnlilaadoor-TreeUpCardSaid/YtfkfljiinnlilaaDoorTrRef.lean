/- The walks of the document's Name and Parent. -/
import Derived.Test.YtfkfljiinnlilaaDoorTrGrown
set_option linter.unusedVariables false
set_option linter.unusedSimpArgs false
namespace Go.Proofs.YtfkfljiinnlilaaDoor
open Go.RowKit Go.Lib

def byteN (s : Str) (i : Nat) : Nat := (s.getD i 0).toNat
def okAt (s : Str) (i : Nat) : Bool := if byteN s i = 47 then !(decide (0 < i) && decide (byteN s (i - 1) = 47)) else decide (97 ≤ byteN s i) && decide (byteN s i ≤ 122)
def refB (s : Str) : Bool := s == [47] || (s != [] && decide (byteN s 0 = 47) && decide (byteN s (s.length - 1) ≠ 47) && (List.range s.length).all (okAt s))
theorem bs_byte (s : Str) (i : Nat) (h : i < (bs s).size) : ((bs s)[i]'h).toNat = byteN s i := by
  unfold byteN
  have hl : i < s.length := by rwa [bs_size] at h
  have : s.getD i 0 = s[i] := by simp [List.getD_eq_getElem?_getD, hl]
  rw [this]
  rfl
theorem refB_one : refB [47] = true := rfl
theorem refB_no0 {s : Str} (h1 : ¬ s = [47]) (h : ¬ byteN s 0 = 47) : refB s = false := by
  have e : (s == [47]) = false := by simpa using h1
  simp [refB, e, h]
theorem refB_noL {s : Str} (h1 : ¬ s = [47]) (h : byteN s (s.length - 1) = 47) : refB s = false := by
  have e : (s == [47]) = false := by simpa using h1
  simp [refB, e, h]
theorem refB_noK {s : Str} (h1 : ¬ s = [47]) {k : Nat} (hk : k < s.length) (h : okAt s k = false) : refB s = false := by
  have e : (s == [47]) = false := by simpa using h1
  have : (List.range s.length).all (okAt s) = false := by
    rw [List.all_eq_false]
    exact ⟨k, List.mem_range.2 hk, by rw [h]; simp⟩
  simp [refB, e, this]
theorem refB_yes {s : Str} (h2 : ¬ s = []) (h0 : byteN s 0 = 47) (hl : ¬ byteN s (s.length - 1) = 47) (h : ∀ k, k < s.length → okAt s k = true) : refB s = true := by
  have : (List.range s.length).all (okAt s) = true := List.all_eq_true.2 fun k hk => h k (List.mem_range.1 hk)
  simp [refB, this, h0, hl, h2]
set_option maxRecDepth 100000 in
set_option maxHeartbeats 1600000 in
theorem refName_any (s : Str) (w : World) (hs : s.length ≤ 140737488351232) :
    Calls Tryd.prog 9 #[.string (bs s)] w fun e w' => e = .returned (.bool (refB s)) ∧ w' = w := by
  have hsz := bs_size s
  have hby : ∀ (i : Nat) (h : i < (bs s).size), ((bs s)[i]'h).toNat = byteN s i := bs_byte s
  by_cases h1 : s = [47]
  · subst h1
    have e1 : ((bs [47]).toList == [47]) = true := by rw [bs_toList]; rfl
    go_enter Tryd.func9, Tryd.ntmps9
    go_wp2
    refine bodyPost_ret (v := .bool true) (by simp [results, Tryd.results9, go_sem]) rfl ?_
    exact ⟨rfl, rfl⟩
  have e1 : ((bs s).toList == [47]) = false := by rw [bs_toList]; simpa using h1
  by_cases h2 : s = []
  · subst h2
    have e2 : ((bs []).toList == []) = true := by rw [bs_toList]; rfl
    go_enter Tryd.func9, Tryd.ntmps9
    clear hby
    go_wp2
    refine bodyPost_ret (v := .bool false) (by simp [results, Tryd.results9, go_sem]) rfl ?_
    exact ⟨rfl, rfl⟩
  have e2 : ((bs s).toList == []) = false := by rw [bs_toList]; simpa using h2
  have hlen : 0 < s.length := List.length_pos_iff.2 h2
  go_enter Tryd.func9, Tryd.ntmps9
  by_cases b0 : byteN s 0 = 47
  · have HB0 := Lib.hid b0
    have c0 : ((byteN s 0 : Int) != 47) = false := by rw [b0]; rfl
    clear b0
    by_cases bl : byteN s (s.length - 1) = 47
    · have HBL := Lib.hid bl
      have cl : ((byteN s (s.length - 1) : Int) == 47) = true := by rw [bl]; rfl
      clear bl
      go_wp2
      refine bodyPost_ret (v := .bool false) (by simp [results, Tryd.results9, go_sem]) rfl ?_
      exact ⟨by rw [refB_noL h1 HBL.out], rfl⟩
    · have HBL := Lib.hid bl
      have cl : ((byteN s (s.length - 1) : Int) == 47) = false := by simp; omega
      clear bl
      have H0 : Hid (∀ j, j < 0 → okAt s j = true) := Lib.hid fun j h => absurd h (by omega)
      go_wp2
      go_loopw [3] (fun i wr => ∃ k : Nat, k ≤ s.length ∧ i = .int .i64 k ∧ wr = w ∧ Hid (∀ j, j < k → okAt s j = true)) (fun i _ => s.length - (intOf i).toNat)
      case atStart => exact ⟨0, by omega, rfl, rfl, H0⟩
      case round =>
        clear H0
        obtain ⟨k, hk, rfl, rfl, HK⟩ := hrel
        by_cases hlt : k < s.length
        · by_cases bk : byteN s k = 47
          · have ck : ((byteN s k : Int) == 47) = true := by rw [bk]; rfl
            have HBK := Lib.hid bk
            clear bk
            by_cases k0 : 0 < k
            · by_cases bj : byteN s (k - 1) = 47
              · have cj : ((byteN s (k - 1) : Int) == 47) = true := by rw [bj]; rfl
                have HN : Hid (okAt s k = false) := Lib.hid (by simp [okAt, HBK.out, bj, k0])
                clear bj
                go_wp2
                refine bodyPost_ret (v := .bool false) (by simp [results, Tryd.results9, go_sem]) rfl ?_
                exact ⟨by rw [refB_noK h1 hlt HN.out], rfl⟩
              · have cj : ((byteN s (k - 1) : Int) == 47) = false := by simp; omega
                have HY : Hid (okAt s k = true) := Lib.hid (by simp [okAt, HBK.out, bj])
                clear bj
                go_wp2
                go_roundw
                case rel => exact ⟨k + 1, by omega, by go_num, trivial, Lib.hid fun j hj => by
                  rcases Nat.lt_succ_iff_lt_or_eq.1 hj with h | rfl
                  · exact HK.out j h
                  · exact HY.out⟩
                case measure => simp [intOf]; omega
            · obtain rfl : k = 0 := by omega
              have HY : Hid (okAt s 0 = true) := Lib.hid (by simp [okAt, HBK.out])
              go_wp2
              go_roundw
              case rel => exact ⟨1, by omega, rfl, trivial, Lib.hid fun j hj => by
                obtain rfl : j = 0 := by omega
                exact HY.out⟩
              case measure => simp [intOf]; omega
          · have ck : ((byteN s k : Int) == 47) = false := by simp; omega
            by_cases g1 : byteN s k < 97
            · have HN : Hid (okAt s k = false) := Lib.hid (by simp [okAt, bk]; omega)
              clear bk
              go_wp2
              refine bodyPost_ret (v := .bool false) (by simp [results, Tryd.results9, go_sem]) rfl ?_
              exact ⟨by rw [refB_noK h1 hlt HN.out], rfl⟩
            · by_cases g2 : 122 < byteN s k
              · have HN : Hid (okAt s k = false) := Lib.hid (by simp [okAt, bk]; omega)
                clear bk
                go_wp2
                refine bodyPost_ret (v := .bool false) (by simp [results, Tryd.results9, go_sem]) rfl ?_
                exact ⟨by rw [refB_noK h1 hlt HN.out], rfl⟩
              · have HY : Hid (okAt s k = true) := Lib.hid (by simp [okAt, bk]; omega)
                clear bk
                go_wp2
                go_roundw
                case rel => exact ⟨k + 1, by omega, by go_num, trivial, Lib.hid fun j hj => by
                  rcases Nat.lt_succ_iff_lt_or_eq.1 hj with h | rfl
                  · exact HK.out j h
                  · exact HY.out⟩
                case measure => simp [intOf]; omega
        · obtain rfl : s.length = k := by omega
          go_wp2
          refine bodyPost_ret (v := .bool true) (by simp [results, Tryd.results9, go_sem]) rfl ?_
          exact ⟨by rw [refB_yes h2 HB0.out HBL.out HK.out], rfl⟩
  · have c0 : ((byteN s 0 : Int) != 47) = true := by simp; omega
    have HB0 := Lib.hid b0
    clear b0
    go_wp2
    refine bodyPost_ret (v := .bool false) (by simp [results, Tryd.results9, go_sem]) rfl ?_
    exact ⟨by rw [refB_no0 h1 HB0.out], rfl⟩
theorem byteN_is {s : Str} {k : Nat} (hk : k < s.length) : byteN s k = 47 ↔ s[k]? = some 47 := by
  unfold byteN
  rw [List.getD_eq_getElem?_getD, List.getElem?_eq_getElem hk]
  simp only [Option.getD_some, Option.some.injEq]
  constructor
  · intro h; exact UInt8.toNat_inj.1 h
  · intro h; rw [h]; rfl
set_option maxRecDepth 100000 in
set_option maxHeartbeats 1600000 in
theorem refParent_any (s : Str) (w : World) (h0 : s[0]? = some 47) (hs : s.length ≤ 140737488351232) :
    Calls Tryd.prog 10 #[.string (bs s)] w fun e w' => e = .returned (.tuple #[.string (bs (parL s)), .string (bs (lstL s))]) ∧ w' = w.drew := by
  have hmem : 47 ∈ s := List.mem_of_getElem? h0
  have hsz := bs_size s
  have hby : ∀ (i : Nat) (h : i < (bs s).size), ((bs s)[i]'h).toNat = byteN s i := bs_byte s
  obtain ⟨-, l1, l2, l3⟩ := lastI_is hmem
  have HL2 := Lib.hid l2
  have HL3 := Lib.hid l3
  have HLT := Lib.hid l1
  have HP : Hid (parL s = s.take (max (lastI s) 1)) := Lib.hid rfl
  have HLS : Hid (lstL s = s.drop (lastI s + 1)) := Lib.hid rfl
  have HT1 : Hid (s.take 1 = [47]) := Lib.hid (by
    cases s with
    | nil => simp at h0
    | cons c t => simp at h0; simp [h0])
  clear l1 l2 l3 h0 hmem
  generalize lastI s = i0 at *
  have hlen : 0 < s.length := by have := HLT.out; omega
  have hi0 := HLT.out
  go_enter Tryd.func10, Tryd.ntmps10
  go_wp2
  go_loopw [4] (fun i wr => ∃ k : Nat, k < s.length ∧ i0 ≤ k ∧ i = .int .i64 k ∧ wr = w) (fun i _ => (intOf i).toNat)
  case atStart => exact ⟨s.length - 1, by omega, by omega, by congr 1; omega, rfl⟩
  case round =>
    obtain ⟨k, hk, hik, rfl, rfl⟩ := hrel
    by_cases bk : byteN s k = 47
    · have ck : ((byteN s k : Int) != 47) = false := by rw [bk]; rfl
      have e : k = i0 := by
        rcases Nat.lt_or_ge i0 k with h | h
        · exact absurd ((byteN_is hk).1 bk) (HL3.out k h)
        · omega
      clear bk
      subst e
      by_cases k0 : k = 0
      · subst k0
        go_wp2
        refine wp_text_all (by kernel_rfl) (by kernel_rfl) (by kernel_rfl) (by repeat' (first | (with_reducible apply tame_then) | (with_reducible apply tame_block) | (with_reducible apply tame_scope) | exact tame_gives | exact tame_body (fun _ _ h => ⟨_, h.1⟩))) ?_
        go_wp2
        refine headed ?_
        go_wp2
        refine bodyPost_ret (v := .tuple #[.string (bs [47]), .string ((bs s).extract 1 s.length)]) (by simp [results, Tryd.results10, go_sem, bs]) rfl ?_
        exact ⟨by rw [HP.out, HLS.out, bs_drop]; show _ = Ending.returned (.tuple #[.string (bs (s.take 1)), _]); rw [HT1.out], rfl⟩
      · have k1 : (((k : Nat) : Int) == 0) = false := by simp; omega
        go_wp2
        refine wp_text_all (by kernel_rfl) (by kernel_rfl) (by kernel_rfl) (by repeat' (first | (with_reducible apply tame_then) | (with_reducible apply tame_block) | (with_reducible apply tame_scope) | exact tame_gives | exact tame_body (fun _ _ h => ⟨_, h.1⟩))) ?_
        go_wp2
        refine headed ?_
        go_wp2
        refine bodyPost_ret (v := .tuple #[.string ((bs s).extract 0 k), .string ((bs s).extract (k + 1) s.length)]) (by simp [results, Tryd.results10, go_sem, bs]) rfl ?_
        exact ⟨by rw [HP.out, HLS.out, bs_drop, bs_take, Nat.max_eq_left (by omega)], rfl⟩
    · have ck : ((byteN s k : Int) != 47) = true := by simp; omega
      have hlt : i0 < k := by
        rcases Nat.lt_or_ge i0 k with h | h
        · exact h
        · obtain rfl : k = i0 := by omega
          exact absurd ((byteN_is hk).2 HL2.out) bk
      clear bk
      go_wp2
      go_roundw
      case rel => exact ⟨k - 1, by omega, by omega, by congr 1; omega, trivial⟩
      case measure => simp [intOf]; omega
end Go.Proofs.YtfkfljiinnlilaaDoor
