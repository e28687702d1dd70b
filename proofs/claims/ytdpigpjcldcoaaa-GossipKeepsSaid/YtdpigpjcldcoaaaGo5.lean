/- The walk of do. -/
import Derived.Test.YtdpigpjcldcoaaaGo4
set_option linter.unusedVariables false
set_option linter.unusedSimpArgs false
namespace Go.Proofs.Ytdpigpjcldcoaaa
open Go.RowKit

set_option maxHeartbeats 400000 in
theorem none_is (b : Bool) (i : Int) (n q g gk : Nat) (w : World) (hN : w.cell? ⟨q, 0, none⟩ = some (.pointer (some ⟨g, 0, none⟩))) (h : w.cell? ⟨g, 0, none⟩ = some (.slice (some ⟨gk, 0, none⟩) n n)) (hn : n ≤ 6) (hb : inB n i = b) :
    Calls Try.prog 23 #[.int .i64 i, .pointer (some ⟨q, 0, none⟩)] w fun e w' => e = .returned (.bool (!b)) ∧ w = w' := by
  subst hb
  by_cases h0 : i < 0
  · go_enter Try.func23, Try.ntmps23
    go_wp2
    go_ret
    exact ⟨congrArg (fun b => Ending.returned (.bool b)) (by simp [inB]; omega), rfl⟩
  · by_cases h1 : (n : Int) ≤ i
    all_goals
      go_enter Try.func23, Try.ntmps23
      go_wp2
      go_ret
      exact ⟨congrArg (fun b => Ending.returned (.bool b)) (by simp [inB]; omega), rfl⟩
/-- What each one knows, in memory. -/
def LayG (pl gk gw n : Nat) (R : List LRow) (w0 : World) (s : GS) (VR : List LRow) (w : World) : Prop := ∃ K, Lay w0 w (rowsG pl gk gw n K s.wrote R VR) ∧ ∀ i, i < n → KnI VR n (K i) (s.known i)
theorem LayG.put {pl gk gw n : Nat} {R : List LRow} {w0 w : World} {s : GS} {VR : List LRow} {r : LRow} (h : ∃ K, Lay w0 w (r :: rowsG pl gk gw n K s.wrote R VR) ∧ ∀ i, i < n → KnI VR n (K i) (s.known i)) : LayG pl gk gw n (r :: R) w0 s VR w := by
  obtain ⟨K, h1, h2⟩ := h
  exact ⟨K, h1.into (P := _ :: _ :: _ :: []), h2⟩
theorem LayG.drop {pl gk gw n : Nat} {R : List LRow} {w0 w : World} {s : GS} {VR : List LRow} {r : LRow} (h : LayG pl gk gw n (r :: R) w0 s VR w) : LayG pl gk gw n R w0 s VR w := by
  obtain ⟨K, h1, h2⟩ := h
  exact ⟨K, h1.del 3, h2⟩
/-- Small enough. -/
structure GB (n : Nat) (s : GS) : Prop where
  len : ∀ i, i < n → (s.known i).length ≤ 100
  wr : ∀ i, i < n → s.wrote i ≤ 1000
abbrev PostG (pl gk gw n : Nat) (R : List LRow) (w0 : World) (VR : List LRow) (c : Int) (s' : GS) (e : Ending) (w' : World) : Prop := e = .returned (.int .i64 c) ∧ ∃ VR', RowsIn VR VR' ∧ LayG pl gk gw n R w0 s' VR' w'
abbrev ptrG (q pl : Nat) : LRow := blk q 45 1 (ofL [.pointer (some ⟨pl, 0, none⟩)])
abbrev mvG (q : Nat) (k f t v : Int) : LRow := blk q 41 4 (ofL [.int .i64 k, .int .i64 f, .int .i64 t, .int .i64 v])
theorem layG_heads {pl gk gw n qm qn : Nat} {k f t v : Int} {R : List LRow} {w0 w : World} {s : GS} {VR : List LRow} (h : LayG pl gk gw n (mvG qm k f t v :: ptrG qn pl :: R) w0 s VR w) :
    w.cell? ⟨pl, 0, none⟩ = some (.slice (some ⟨gk, 0, none⟩) n n) ∧ w.cell? ⟨qn, 0, none⟩ = some (.pointer (some ⟨pl, 0, none⟩)) ∧ w.cell? ⟨qm, 0, none⟩ = some (.int .i64 k) ∧ w.cell? ⟨qm, 1, none⟩ = some (.int .i64 f) ∧ w.cell? ⟨qm, 2, none⟩ = some (.int .i64 t) ∧ w.cell? ⟨qm, 3, none⟩ = some (.int .i64 v) := by
  obtain ⟨K, h1, -⟩ := h
  exact ⟨h1.cellB 0 rfl 0 (by omega), h1.cellB 4 rfl 0 (by omega), h1.cellB 3 rfl 0 (by omega), h1.cellB 3 rfl 1 (by omega), h1.cellB 3 rfl 2 (by omega), h1.cellB 3 rfl 3 (by omega)⟩
set_option maxRecDepth 100000 in
set_option maxHeartbeats 3200000 in
theorem do_any (pl gk gw n : Nat) (R VR : List LRow) (w0 w : World) (s : GS) (k f t v : Int) (hn : n ≤ 6) (hB : GB n s) (h : LayG pl gk gw n R w0 s VR w) :
    Calls Try.prog 15 #[.pointer (some ⟨pl, 0, none⟩), .agg #[.int .i64 k, .int .i64 f, .int .i64 t, .int .i64 v]] w (PostG pl gk gw n R w0 VR (doS n k f t v s).1 (doS n k f t v s).2) := by
  obtain ⟨r, hr⟩ : ∃ r, r = doS n k f t v s := ⟨_, rfl⟩
  rw [← hr]
  have HRR := Lib.hid hr; clear hr
  have HB := Lib.hid hB; clear hB
  obtain ⟨K0, hK1, hK2⟩ := h
  have HKK : Hid (LayG pl gk gw n (mvG (w.heap.size + 1) k f t v :: ptrG w.heap.size pl :: R) w0 s VR ((w.alloc (.cells #[.pointer (some ⟨pl, 0, none⟩)] 45)).alloc (.cells #[.int .i64 k, .int .i64 f, .int .i64 t, .int .i64 v] 41))) := Lib.hid (by
    have h1 : LayG pl gk gw n (ptrG w.heap.size pl :: R) w0 s VR (w.alloc (.cells #[.pointer (some ⟨pl, 0, none⟩)] 45)) := LayG.put ⟨K0, hK1.newB [.pointer (some ⟨pl, 0, none⟩)] 45 1 rfl _ rfl, hK2⟩
    obtain ⟨K1, h2, h3⟩ := h1
    exact LayG.put ⟨K1, h2.newB [.int .i64 k, .int .i64 f, .int .i64 t, .int .i64 v] 41 4 rfl _ (by simp), h3⟩)
  clear hK1 hK2
  by_cases hk : k ≠ 1 ∧ k ≠ 2
  · have hk1 : (k != 1) = true := by simpa using hk.1
    have hk2 : (k != 2) = true := by simpa using hk.2
    obtain rfl : r = (6, s) := by rw [HRR.out]; exact if_pos hk
    clear hk HRR
    go_enter Try.func15, Try.ntmps15
    go_wp2
    go_ret
    exact ⟨rfl, VR, RowsIn.refl _, HKK.out.drop.drop⟩
  · have HR1 := Lib.hid (HRR.out.trans (if_neg hk))
    clear HRR
    by_cases hf : inB n f = false
    · have HF := Lib.hid hf
      obtain rfl : r = (2, s) := by rw [HR1.out, if_pos (.inl hf)]
      rcases (by omega : k = 1 ∨ k = 2) with rfl | rfl
      all_goals
        clear hk HR1 hf
        go_enter Try.func15, Try.ntmps15
        go_wp2_with fail
        refine at_world (F := fun W' => Calls _ _ _ W' _) (fun W => LayG pl gk gw n (mvG (w.heap.size + 1) _ _ _ _ :: ptrG w.heap.size pl :: R) w0 s VR W) HKK.out ?_
        intro W hW
        have HW := Lib.hid hW
        clear hW HKK
        generalize w.heap.size + 1 = qm at HW ⊢
        generalize w.heap.size = qn at HW ⊢
        obtain ⟨c0, hN, m0, m1, m2, m3⟩ := layG_heads HW.out
        refine (none_is false f n qn pl gk _ hN c0 hn HF.out).mono ?_
        rintro e w3 ⟨rfl, rfl⟩
        go_wp2
        go_ret
        exact ⟨rfl, VR, RowsIn.refl _, HW.out.drop.drop⟩
    · have hft : inB n f = true := by simpa using hf
      have hfz : 0 ≤ f ∧ f < n := by simpa [inB] using hft
      obtain ⟨F, rfl⟩ := Int.eq_ofNat_of_zero_le hfz.1
      have hF : F < n := by have := hfz.2; omega
      have HF := Lib.hid hft
      clear hfz
      rcases (by omega : k = 1 ∨ k = 2) with rfl | rfl
      · have HR2 : Hid (r = if v < 0 ∨ 100 < v then (4, s) else (0, writeS F v s)) := Lib.hid (by rw [HR1.out, if_neg (by rintro (h | h); exact hf h; omega), if_neg (by omega)]; rfl)
        clear HR1 hk hf hft
        by_cases hv : v < 0 ∨ 100 < v
        · obtain rfl : r = (4, s) := by rw [HR2.out, if_pos hv]
          clear HR2
          rcases hv with hv | hv
          all_goals
            go_enter Try.func15, Try.ntmps15
            go_wp2_with fail
            refine at_world (F := fun W' => Calls _ _ _ W' _) (fun W => LayG pl gk gw n (mvG (w.heap.size + 1) _ _ _ _ :: ptrG w.heap.size pl :: R) w0 s VR W) HKK.out ?_
            intro W hW
            have HW := Lib.hid hW
            clear hW HKK
            generalize w.heap.size + 1 = qm at HW ⊢
            generalize w.heap.size = qn at HW ⊢
            obtain ⟨c0, hN, m0, m1, m2, m3⟩ := layG_heads HW.out
            refine (none_is true ((F : Nat) : Int) n qn pl gk _ hN c0 hn HF.out).mono ?_
            rintro e w3 ⟨rfl, rfl⟩
            go_wp2
            go_ret
            exact ⟨rfl, VR, RowsIn.refl _, HW.out.drop.drop⟩
        · have hv1 : ¬ v < 0 := fun h => hv (.inl h)
          have hv2 : ¬ 100 < v := fun h => hv (.inr h)
          obtain rfl : r = (0, writeS F v s) := by rw [HR2.out, if_neg hv]
          clear HR2 hv
          go_enter Try.func15, Try.ntmps15
          go_wp2_with fail
          refine at_world (F := fun W' => Calls _ _ _ W' _) (fun W => LayG pl gk gw n (mvG (w.heap.size + 1) _ _ _ _ :: ptrG w.heap.size pl :: R) w0 s VR W) HKK.out ?_
          intro W hW
          have HW := Lib.hid hW
          clear hW HKK
          generalize w.heap.size + 1 = qm at HW ⊢
          generalize w.heap.size = qn at HW ⊢
          obtain ⟨c0, hN, m0, m1, m2, m3⟩ := layG_heads HW.out
          refine (none_is true ((F : Nat) : Int) n qn pl gk _ hN c0 hn HF.out).mono ?_
          rintro e w3 ⟨rfl, rfl⟩
          go_wp2_with fail
          obtain ⟨K, h1, h2⟩ := HW.out
          refine (write_any pl gk gw n K s.wrote _ VR w0 W s.known F v hn hF HB.out.len (HB.out.wr F hF) h1 h2).mono ?_
          rintro e w4 ⟨rfl, vv, VR', hin, h3, h4⟩
          have H4 : Hid (RowsIn VR VR' ∧ LayG pl gk gw n (mvG qm 1 (F : Nat) t v :: ptrG qn pl :: R) w0 (writeS F v s) VR' w4) := Lib.hid ⟨hin, _, h3, fun j hj => by
            show KnI VR' n (upd K F vv j) (upd s.known F _ j)
            by_cases e : j = F
            · subst e; rw [upd_same, upd_same]; exact h4
            · rw [upd_ne _ _ e, upd_ne _ _ e]; exact (h2 j hj).sub hin⟩
          clear h1 h2 h3 h4 hin
          go_wp2
          go_ret
          exact ⟨rfl, VR', H4.out.1, H4.out.2.drop.drop⟩
      · by_cases ht : inB n t = false
        · have HT := Lib.hid ht
          obtain rfl : r = (2, s) := by rw [HR1.out, if_pos (.inr ⟨rfl, ht⟩)]
          clear HR1 hk hf hft ht
          go_enter Try.func15, Try.ntmps15
          go_wp2_with fail
          refine at_world (F := fun W' => Calls _ _ _ W' _) (fun W => LayG pl gk gw n (mvG (w.heap.size + 1) _ _ _ _ :: ptrG w.heap.size pl :: R) w0 s VR W) HKK.out ?_
          intro W hW
          have HW := Lib.hid hW
          clear hW HKK
          generalize w.heap.size + 1 = qm at HW ⊢
          generalize w.heap.size = qn at HW ⊢
          obtain ⟨c0, hN, m0, m1, m2, m3⟩ := layG_heads HW.out
          refine (none_is true ((F : Nat) : Int) n qn pl gk _ hN c0 hn HF.out).mono ?_
          rintro e w3 ⟨rfl, rfl⟩
          go_wp2_with fail
          refine (none_is false t n qn pl gk _ hN c0 hn HT.out).mono ?_
          rintro e w3 ⟨rfl, rfl⟩
          go_wp2
          go_ret
          exact ⟨rfl, VR, RowsIn.refl _, HW.out.drop.drop⟩
        · have htt : inB n t = true := by simpa using ht
          have htz : 0 ≤ t ∧ t < n := by simpa [inB] using htt
          obtain ⟨T, rfl⟩ := Int.eq_ofNat_of_zero_le htz.1
          have hT : T < n := by have := htz.2; omega
          have HT := Lib.hid htt
          obtain rfl : r = (0, tellS n F T s) := by
            rw [HR1.out, if_neg (by rintro (h | h); exact hf h; exact ht h.2), if_pos rfl]; rfl
          clear HR1 hk hf hft ht htt htz
          go_enter Try.func15, Try.ntmps15
          go_wp2_with fail
          refine at_world (F := fun W' => Calls _ _ _ W' _) (fun W => LayG pl gk gw n (mvG (w.heap.size + 1) _ _ _ _ :: ptrG w.heap.size pl :: R) w0 s VR W) HKK.out ?_
          intro W hW
          have HW := Lib.hid hW
          clear hW HKK
          generalize w.heap.size + 1 = qm at HW ⊢
          generalize w.heap.size = qn at HW ⊢
          obtain ⟨c0, hN, m0, m1, m2, m3⟩ := layG_heads HW.out
          refine (none_is true ((F : Nat) : Int) n qn pl gk _ hN c0 hn HF.out).mono ?_
          rintro e w3 ⟨rfl, rfl⟩
          go_wp2_with fail
          refine (none_is true ((T : Nat) : Int) n qn pl gk _ hN c0 hn HT.out).mono ?_
          rintro e w3 ⟨rfl, rfl⟩
          go_wp2_with fail
          obtain ⟨K, h1, h2⟩ := HW.out
          refine (tell_any pl gk gw n K s.wrote _ VR w0 W s.known F T hn hF hT HB.out.len h1 h2).mono ?_
          rintro e w4 ⟨rfl, vv, VR', hin, h3, h4⟩
          have H4 : Hid (RowsIn VR VR' ∧ LayG pl gk gw n (mvG qm 2 (F : Nat) (T : Nat) v :: ptrG qn pl :: R) w0 (tellS n F T s) VR' w4) := Lib.hid ⟨hin, _, h3, fun j hj => by
            show KnI VR' n (upd K T vv j) (upd s.known T _ j)
            by_cases e : j = T
            · subst e; rw [upd_same, upd_same]; exact h4
            · rw [upd_ne _ _ e, upd_ne _ _ e]; exact (h2 j hj).sub hin⟩
          clear h1 h2 h3 h4 hin
          go_wp2
          go_ret
          exact ⟨rfl, VR', H4.out.1, H4.out.2.drop.drop⟩
end Go.Proofs.Ytdpigpjcldcoaaa
