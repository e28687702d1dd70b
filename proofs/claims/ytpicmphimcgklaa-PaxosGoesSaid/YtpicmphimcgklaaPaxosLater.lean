/- The law PaxosLater, walked. -/
import Derived.Test.YtpicmphimcgklaaPaxosOne
import Derived.Test.YtpicmphimcgklaaPaxLaw
import Derived.Test.YtpicmphimcgklaaInside
set_option linter.unusedVariables false
set_option linter.unusedSimpArgs false
namespace Go.Proofs.Ytpicmphimcgklaa
open Go.RowKit

/-- Between the rounds: what Play gave, and its struct in block b0. -/
structure PL (w wr : World) (n : Nat) (M : Mv) (m gP gT gV : Nat) (A : Option Addr) (cap b0 : Nat) : Prop where
  pf : PF w wr n M m gP gT gV A cap
  row : wr.heap[b0]? = some (.cells #[.slice A m cap, .int .i64 (pxE n M m).ch, .slice (some ⟨gP, 0, none⟩) n n, .slice (some ⟨gT, 0, none⟩) n n, .slice (some ⟨gV, 0, none⟩) n n] 26 (0, 0))
section
variable {w wr wr' : World} {n : Nat} {M : Mv} {m gP gT gV : Nat} {A : Option Addr} {cap b0 : Nat}
theorem PL.lt (h : PL w wr n M m gP gT gV A cap b0) : b0 < wr.heap.size := by
  have := h.row
  exact (Array.getElem?_eq_some_iff.1 this).1
theorem PL.keep (h : PL w wr n M m gP gT gV A cap b0) (hb : Below wr.heap.size wr wr') : PL w wr' n M m gP gT gV A cap b0 :=
  ⟨⟨h.pf.oP.below hb (fun k hk => (h.pf.oP.lt k hk).2), h.pf.oT.below hb (fun k hk => (h.pf.oT.lt k hk).2), h.pf.oV.below hb (fun k hk => (h.pf.oV.lt k hk).2), h.pf.cod.below hb (fun k hk => (h.pf.cod.lt k hk).2), h.pf.bel.trans (hb.mono h.pf.bel.size)⟩, (hb.block _ h.lt).trans h.row⟩
theorem PL.alloc (h : PL w wr n M m gP gT gV A cap b0) (o : Obj) : PL w (wr.alloc o) n M m gP gT gV A cap b0 := h.keep ((Below.refl _ _).alloc (Nat.le_refl _) o)
theorem PL.sim (h : PL w wr n M m gP gT gV A cap b0) (e : Sim wr wr') : PL w wr' n M m gP gT gV A cap b0 := h.keep (below_sim (Below.refl _ _) e)
theorem PL.cells (h : PL w wr n M m gP gT gV A cap b0) : wr.cell? ⟨b0, 0, none⟩ = some (.slice A m cap) ∧ wr.cell? ⟨b0, 1, none⟩ = some (.int .i64 (pxE n M m).ch) ∧ wr.cell? ⟨b0, 2, none⟩ = some (.slice (some ⟨gP, 0, none⟩) n n) ∧ wr.cell? ⟨b0, 3, none⟩ = some (.slice (some ⟨gT, 0, none⟩) n n) ∧ wr.cell? ⟨b0, 4, none⟩ = some (.slice (some ⟨gV, 0, none⟩) n n) := by
  refine ⟨?_, ?_, ?_, ?_, ?_⟩ <;> (rw [cell_of_row _ _ _ _ _ _ h.row]; rfl)
end
theorem PAX_tk9 (n : Nat) (M : Mv) (j b : Nat) (hb : 9 < b) : (pxE n M j).tk b = 0 := by
  induction j with
  | zero => rfl
  | succ j ih =>
    have h := (px_tk n (M.k j) (M.f j) (M.v j) (pxE n M j) b (by omega)).1
    show (pxStep n (M.k j) (M.f j) (M.v j) (pxE n M j)).2.tk b = 0
    rw [h, ih, if_neg]
    rintro ⟨h1, h2, h3⟩
    unfold pxStep at h3
    rw [if_neg (by omega)] at h3
    split at h3
    · simp at h3
    · rw [if_pos (by omega)] at h3; simp at h3

theorem later_ne {a b c : Int} (h : a = b) (h2 : b = c) : (a != c) = false := by subst h; subst h2; simp
set_option maxRecDepth 100000 in
set_option maxHeartbeats 3200000 in
theorem paxosLater_good (n m cap : Nat) (A : Option Addr) (M : Mv) (w : World) (hr : Rd w w.heap.size A (m * 4) (mvF M)) (hb : playedB n m = true) :
    Calls Try.prog 4 #[.int .i64 n, .slice A m cap] w fun e w' => e = .returned (.bool true) ∧ Below w.heap.size w w' := by
  obtain ⟨h1, h6, hm6⟩ := playedB_iff.1 hb
  have HR := Lib.hid hr; clear hr
  have HB := Lib.hid hb; clear hb
  have HI := Lib.hid (PI.all (n := n) (by omega) M m)
  have hlaw := later_law (n := n) (by omega) (by omega) HI.out (fun b hb => PAX_tk9 n M m b hb)
  obtain ⟨hfc, hlaw⟩ := hlaw
  have HFC := Lib.hid hfc
  have HL := Lib.hid hlaw
  clear hfc hlaw
  go_enter Try.func4, Try.ntmps4
  go_wp2_with fail
  refine (pax_good n m cap _ A M w (by omega) (by omega) (by omega) (Nat.le_refl _) HR.out).mono ?_
  rintro e w1 ⟨v, rfl, gP, gT, gV, A1, c1, rfl, hp1⟩
  have HP1 := Lib.hid hp1; clear hp1
  go_wp2_with fail
  refine at_world (F := fun W' => Calls _ _ _ W' _) (fun W => PL w W n M m gP gT gV A1 c1 w1.heap.size) ⟨?_, heap_alloc_new w1 _⟩ ?_
  · have hb := (Below.refl w1.heap.size w1).alloc (Nat.le_refl _) (.cells #[.slice A1 m c1, .int .i64 (pxE n M m).ch, .slice (some ⟨gP, 0, none⟩) n n, .slice (some ⟨gT, 0, none⟩) n n, .slice (some ⟨gV, 0, none⟩) n n] 26)
    have h := HP1.out
    exact ⟨h.oP.below hb (fun k hk => (h.oP.lt k hk).2), h.oT.below hb (fun k hk => (h.oT.lt k hk).2), h.oV.below hb (fun k hk => (h.oV.lt k hk).2), h.cod.below hb (fun k hk => (h.cod.lt k hk).2), h.bel.alloc h.bel.size _⟩
  intro W hW
  obtain ⟨b0, hb0⟩ : ∃ b0, w1.heap.size = b0 := ⟨_, rfl⟩
  rw [hb0] at hW
  rw [hb0]
  have HW := Lib.hid hW
  clear hW hb0 HP1
  refine (bool_is (played_any n m _) HB.out).mono ?_
  rintro e w3 ⟨rfl, rfl⟩
  obtain ⟨c0, c1', c2, c3, c4⟩ := HW.out.cells
  go_wp2
  clear c0 c1' c2 c3 c4
  go_loopw [7, 8] (fun f b wr => ∃ d : Nat, d ≤ 9 ∧ b = .int .i64 ((9 - d : Nat) : Int) ∧ f = .int .i64 (firstTo n (pxE n M m) d : Nat) ∧ Hid (PL w wr n M m gP gT gV A1 c1 b0)) (fun _ b _ => (intOf b).toNat)
  case atStart => exact ⟨0, by omega, rfl, rfl, HW⟩
  case round =>
    obtain ⟨d, hd, rfl, rfl, HQ⟩ := hrel
    by_cases hlt : d < 9
    · obtain ⟨b, hbd⟩ : ∃ b, b = 9 - d := ⟨_, rfl⟩
      have HBD := Lib.hid hbd
      have hb1 : 1 ≤ b := by omega
      have hb9 : b ≤ 9 := by omega
      rw [← hbd]
      clear hbd
      have HST := Lib.hid (setTo_tk n M b hb1)
      have hd1 : decide (0 < b) = true := by simp; omega
      have HTB := Lib.hid (fun j => (PI.all (n := n) (by omega) M j).tkb b)
      go_wp2
      go_loopw [9, 55] (fun s i wr2 => ∃ j : Nat, j ≤ m ∧ i = .int .i64 j ∧ s = .int .u32 (setTo n M b j : Nat) ∧ Hid (PL w wr2 n M m gP gT gV A1 c1 b0)) (fun _ i _ => m - (intOf i).toNat)
      case atStart => exact ⟨0, by omega, rfl, rfl, HQ⟩
      case round =>
        clear HQ
        obtain ⟨j, hj, rfl, rfl, HQ⟩ := hrel
        by_cases hlm : j < m
        · obtain ⟨ad, rfl, hbl, k0, k1, k2, k3⟩ := (HR.out.below HQ.out.pf.bel).rec4 hlm
          obtain ⟨ga, rfl, _, _, hcod, _⟩ := HQ.out.pf.cod.pos1 (by omega)
          have hcj := hcod j hlm
          have hjm : (j : Int) < (m : Int) := by omega
          clear hcod hbl
          obtain ⟨s0, _⟩ := HQ.out.cells
          have hb0 := HQ.out.lt
          have hga := (HQ.out.pf.cod.lt ga rfl).2
          have HSS : Hid (setTo n M b (j + 1) = if M.k j = 3 ∧ M.v j = b ∧ pxC n M j = 0 then setTo n M b j ||| 2 ^ (M.f j).toNat else setTo n M b j) := rfl
          by_cases hA : M.k j = 3 ∧ M.v j = b ∧ pxC n M j = 0
          · have HA := Lib.hid hA
            have hfi := (px_tk n (M.k j) (M.f j) (M.v j) (pxE n M j) b hb1).2 hA.1 hA.2.2
            obtain ⟨fi, hfe⟩ := Int.eq_ofNat_of_zero_le hfi.1
            have hfn : fi < n := by omega
            rw [hA.1] at k0
            rw [hA.2.1] at k3
            rw [hA.2.2] at hcj
            rw [hfe] at k1
            have HFE := Lib.hid hfe
            have HO := Lib.hid (or_pow (a := setTo n M b j) (m := fi) (by rw [HST.out]; have h1 := HTB.out j; have h2 := pow64 (n := n) (by omega); omega) (by omega))
            clear hA hfi hfe
            go_wp2_with (go_at_call 8; refine (inside1 true n fi _ _ _ (by simp) (by simp; omega)).mono ?_; rintro e w4 ⟨rfl, rfl⟩)
            go_roundw
            case rel => exact ⟨j + 1, by omega, by go_num, by rw [HSS.out, if_pos HA.out, HO.out, HFE.out]; rfl, (HQ.out.alloc _).alloc _⟩
            case measure => simp [intOf]; omega
          · have HA : Hid (setTo n M b (j + 1) = setTo n M b j) := by show _ = _; rw [HSS.out, if_neg hA]
            clear HSS
            by_cases hk : M.k j = 3
            · rw [hk] at k0
              by_cases hv : M.v j = b
              · rw [hv] at k3
                have hc0 : (pxC n M j == 0) = false := by simpa using fun h => hA ⟨hk, hv, h⟩
                clear hA hk hv
                go_wp2
                go_roundw
                case rel => exact ⟨j + 1, by omega, by go_num, by rw [HA.out], HQ.out.alloc _⟩
                case measure => simp [intOf]; omega
              · have hv' : (M.v j == (b : Int)) = false := by simpa using hv
                clear hA hk hv
                go_wp2
                go_roundw
                case rel => exact ⟨j + 1, by omega, by go_num, by rw [HA.out], HQ.out.alloc _⟩
                case measure => simp [intOf]; omega
            · have hk' : (M.k j == 3) = false := by simpa using hk
              clear hA hk
              go_wp2
              go_roundw
              case rel => exact ⟨j + 1, by omega, by go_num, by rw [HA.out], HQ.out.alloc _⟩
              case measure => simp [intOf]; omega
        · obtain rfl : j = m := by omega
          have hset : setTo n M b j < 64 := by rw [HST.out]; have h1 := HTB.out j; have h2 := pow64 (n := n) (by omega); omega
          have hp6 : pop (setTo n M b j) ≤ 6 := pop_le (n := 6) hset (by omega)
          obtain ⟨q, hq⟩ : ∃ q, pop (setTo n M b j) = q := ⟨_, rfl⟩
          have HPQ := Lib.hid hq
          rw [hq] at hp6
          clear hq
          have HFS : Hid (firstTo n (pxE n M j) (d + 1) = if n < 2 * q then b else firstTo n (pxE n M j) d) := by
            show _ = _
            rw [firstTo, ← HBD.out, ← HST.out, HPQ.out]
          by_cases hlt2 : n < 2 * q
          · have HF2 : Hid (firstTo n (pxE n M j) (d + 1) = b) := by show _ = _; rw [HFS.out, if_pos hlt2]
            go_wp2_with (go_at_call 9; refine (size_is q _ _ (by omega) HPQ.out).mono ?_; rintro e w4 ⟨rfl, rfl⟩)
            go_roundw
            case rel => exact ⟨d + 1, by omega, by congr 1; have := HBD.out; omega, by rw [HF2.out], HQ⟩
            case measure => simp [intOf]; omega
          · have HF2 : Hid (firstTo n (pxE n M j) (d + 1) = firstTo n (pxE n M j) d) := by show _ = _; rw [HFS.out, if_neg hlt2]
            go_wp2_with (go_at_call 9; refine (size_is q _ _ (by omega) HPQ.out).mono ?_; rintro e w4 ⟨rfl, rfl⟩)
            go_roundw
            case rel => exact ⟨d + 1, by omega, by congr 1; have := HBD.out; omega, by rw [HF2.out], HQ⟩
            case measure => simp [intOf]; omega
    · obtain rfl : d = 9 := by omega
      have e9 : ((9 - 9 : Nat) : Int) = 0 := rfl
      rw [e9]
      clear e9
      obtain ⟨f, hf⟩ : ∃ f, firstTo n (pxE n M m) 9 = f := ⟨_, rfl⟩
      have HL2 : Hid (∀ i, (pxE n M m).T i ≤ (pxE n M m).P i ∧ (0 < f → f ≤ (pxE n M m).T i → ((pxE n M m).V i : Int) = (pxE n M m).ch)) := by show ∀ _, _; rw [← hf]; exact HL.out
      have hfc : (0 < f) = (0 ≤ (pxE n M m).ch) := by rw [← hf]; exact HFC.out
      rw [hf]
      clear hf
      obtain ⟨x, hx⟩ : ∃ x, (pxE n M m).ch = x := ⟨_, rfl⟩
      obtain ⟨s0, s1, s2, s3, s4⟩ := HQ.out.cells
      have HX := Lib.hid hx
      rw [hx] at hfc s1
      clear hx
      have hcase : (0 < f ∧ 0 ≤ x) ∨ (¬ 0 < f ∧ x < 0) := by
        by_cases hf0 : 0 < f
        · exact .inl ⟨hf0, by rw [← hfc]; exact hf0⟩
        · exact .inr ⟨hf0, Int.not_le.1 fun h => hf0 (by rw [hfc]; exact h)⟩
      clear hfc
      obtain ⟨bf, hbf, hbx⟩ : ∃ bf, decide (0 < f) = bf ∧ decide (0 ≤ x) = bf := by
        rcases hcase with ⟨hf0, hx0⟩ | ⟨hf0, hx0⟩
        · exact ⟨true, by simp [hf0], by simp [hx0]⟩
        · exact ⟨false, by simpa using hf0, by simpa using hx0⟩
      have HFF : Hid (bf = true → 0 < f) := by show _ → _; intro h; rw [h] at hbf; simpa using hbf
      clear hcase
      cases bf
      all_goals
        go_wp2
        clear s0 s1 s2 s3 s4
        go_loopw [12] (fun i wr2 => ∃ j : Nat, j ≤ n ∧ i = .int .i64 j ∧ Hid (PL w wr2 n M m gP gT gV A1 c1 b0)) (fun i _ => n - (intOf i).toNat)
        case atStart => exact ⟨0, by omega, rfl, HQ⟩
        case round =>
          clear HQ
          obtain ⟨j, hj, rfl, HQ⟩ := hrel
          obtain ⟨s0, s1, s2, s3, s4⟩ := HQ.out.cells
          rw [HX.out] at s1
          by_cases hjn : j < n
          · have hjn' : (j : Int) < (n : Int) := by omega
            have p1 := own_cell1 HQ.out.pf.oP hjn
            have p2 := own_cell1 HQ.out.pf.oT hjn
            have p3 := own_cell1 HQ.out.pf.oV hjn
            obtain ⟨hle, hvv⟩ := HL2.out j
            have HV := Lib.hid hvv
            clear hvv
            obtain ⟨T, hT⟩ : ∃ T, (pxE n M m).T j = T := ⟨_, rfl⟩
            obtain ⟨V, hV⟩ : ∃ V, (pxE n M m).V j = V := ⟨_, rfl⟩
            rw [hT] at HV hle p2
            rw [hV] at HV p3
            clear hT hV
            rcases Nat.lt_or_ge T f with hfT | hfT
            all_goals
              have hvv : 0 < f ∧ f ≤ T → ((V : Int) != x) = false := fun h => later_ne (HV.out h.1 h.2) HX.out
              have HVV := Lib.hid hvv
              clear hvv
              try (have hv := HVV.out ⟨HFF.out trivial, hfT⟩)
              go_wp2
              refine wp_text_all (by kernel_rfl) (by kernel_rfl) (by kernel_rfl) (by repeat' (first | (with_reducible apply tame_then) | (with_reducible apply tame_block) | (with_reducible apply tame_scope) | exact tame_gives | exact tame_body (fun _ _ h => ⟨_, h.1⟩))) ?_
              go_wp2
              refine headed ?_
              go_wp2
              refine wp_text_all (by kernel_rfl) (by kernel_rfl) (by kernel_rfl) (by repeat' (first | (with_reducible apply tame_then) | (with_reducible apply tame_block) | (with_reducible apply tame_scope) | exact tame_gives | exact tame_body (fun _ _ h => ⟨_, h.1⟩))) ?_
              go_wp2
              refine headed ?_
              go_wp2
              go_roundw
              case rel => exact ⟨j + 1, by omega, by go_num, HQ.out.sim ⟨rfl, rfl, rfl, rfl⟩⟩
              case measure => simp [intOf]; omega
          · obtain rfl : j = n := by omega
            go_wp2
            go_ret
            exact ⟨rfl, HQ.out.pf.bel⟩

set_option maxRecDepth 100000 in
set_option maxHeartbeats 1600000 in
theorem paxosLater_bad (n : Int) (m cap : Nat) (A : Option Addr) (w : World) (hm : m ≤ maxLen) (hb : playedB n m = false) :
    Calls Try.prog 4 #[.int .i64 n, .slice A m cap] w fun e w' => e = .returned (.bool true) ∧ Below w.heap.size w w' := by
  have hb' : ¬ (1 ≤ n ∧ n ≤ 6 ∧ (m : Int) ≤ 60) := fun h => by rw [playedB_iff.2 h] at hb; cases hb
  have HB := Lib.hid hb; clear hb
  have HN := Lib.hid hb'; clear hb'
  go_enter Try.func4, Try.ntmps4
  go_wp2_with fail
  refine (pax_bad n m cap A w hm HN.out).mono ?_
  rintro e w1 ⟨rfl, hb1⟩
  have HB1 := Lib.hid hb1; clear hb1
  go_wp2_with (go_at_call 7; refine (bool_is (played_any n m _) HB.out).mono ?_; rintro e w3 ⟨rfl, rfl⟩)
  go_ret
  exact ⟨rfl, HB1.out.alloc HB1.out.size _⟩

theorem paxosLater_all (n : Int) (A : Option Addr) (m cap : Nat) (M : Mv) (w : World) (_ : (Lit.int .i64 n).wf = true) (hmc : m ≤ cap ∧ cap * 32 ≤ 140737488351232) (hr : Rd w w.heap.size A (m * 4) (mvF M)) :
    Calls Try.prog 4 #[.int .i64 n, .slice A m cap] w fun e w' => e = .returned (.bool true) ∧ Below w.heap.size w w' := by
  cases hb : playedB n m
  · exact paxosLater_bad n m cap A w (by unfold maxLen; omega) hb
  · have h := playedB_iff.1 hb
    obtain ⟨k, rfl⟩ := Int.eq_ofNat_of_zero_le (by omega : 0 ≤ n)
    exact paxosLater_good k m cap A M w hr hb
end Go.Proofs.Ytpicmphimcgklaa
