/- What the laws of gossip read, and ask. -/
import Derived.Test.YtdpigpjcldcoaaaGo8
import Derived.Test.YtdpigpjcldcoaaaPlayed
import Derived.Test.YtdpigpjcldcoaaaInside
set_option linter.unusedVariables false
set_option linter.unusedSimpArgs false
namespace Go.Proofs.Ytdpigpjcldcoaaa
open Go.RowKit

/-- Where an answer's slices lie. -/
structure GP where
  AC : Option Addr
  aK : Addr
  cC : Nat
  cK : Nat
  gA : Nat → Option Addr
  gc : Nat → Nat
abbrev GP.l (p : GP) (n m : Nat) : List Value := [.slice p.AC m p.cC, .slice (some p.aK) n p.cK]
abbrev GP.agg (p : GP) (n m : Nat) : Value := .agg #[.slice p.AC m p.cC, .slice (some p.aK) n p.cK]
abbrev blkG (b : Nat) (l : List Value) : LRow := blk b 27 2 (ofL l)
/-- A list of knowns in memory. -/
def KLs (n : Nat) (ks : List Kn) (A : Option Addr) (B : Nat) (w : World) : Prop :=
  ∀ t, t < ks.length → ∃ ad g c, A = some ad ∧ ad.block < B ∧ w.cell? (ad.add (t * 2)) = some (.int .i64 (knAt ks t).val) ∧ w.cell? ⟨(ad.add (t * 2)).block, (ad.add (t * 2)).off + 1, none⟩ = some (.slice (some ⟨g, 0, none⟩) n c) ∧ Rd w B (some ⟨g, 0, none⟩) n (fun j => .int .i64 ((knAt ks t).vec j : Nat))
theorem KLs.below {n B : Nat} {ks : List Kn} {A : Option Addr} {w w' : World} (h : KLs n ks A B w) (hb : Below B w w') : KLs n ks A B w' := fun t ht => by
  obtain ⟨ad, g, c, e, h1, h3, h4, h5⟩ := h t ht
  exact ⟨ad, g, c, e, h1, (hb.cell (by rw [addr_block]; exact h1)).trans h3, (hb.cell (p := ⟨(ad.add (t * 2)).block, (ad.add (t * 2)).off + 1, none⟩) (show (ad.add (t * 2)).block < B by rw [addr_block]; exact h1)).trans h4, h5.below hb⟩
structure GRd (n m : Nat) (cd : Nat → Int) (KS : Nat → List Kn) (p : GP) (B : Nat) (w : World) : Prop where
  le : B ≤ w.heap.size
  C : Rd w B p.AC m (fun j => .int .i64 (cd j))
  K : ∀ i, i < n → w.cell? (p.aK.add i) = some (.slice (p.gA i) (KS i).length (p.gc i))
  b : p.aK.block < B
  L : ∀ i, i < n → KLs n (KS i) (p.gA i) B w
theorem GRd.below {n m : Nat} {cd : Nat → Int} {KS : Nat → List Kn} {p : GP} {B : Nat} {w w' : World} (h : GRd n m cd KS p B w) (hb : Below B w w') : GRd n m cd KS p B w' :=
  ⟨Nat.le_trans h.le hb.size, h.C.below hb, fun j hj => (hb.cell (by rw [addr_block]; exact h.b)).trans (h.K j hj), h.b, fun j hj => (h.L j hj).below hb⟩
theorem GRd.to {n m : Nat} {cd : Nat → Int} {KS : Nat → List Kn} {p : GP} {B : Nat} {w w' : World} (h : GRd n m cd KS p B w) (hb : Below w.heap.size w w') : GRd n m cd KS p B w' := h.below (hb.mono h.le)
theorem go_play (n m cap B : Nat) (A : Option Addr) (M : Mv) (w : World) (hn1 : 1 ≤ n) (hn : n ≤ 6) (hm : m ≤ 60) (hB : B ≤ w.heap.size) (hr : Rd w B A (m * 4) (mvF M)) :
    Calls Try.prog 8 #[.int .i64 n, .slice A m cap] w (Gives fun v w' => ∃ (p : GP) (KS : Nat → List Kn), v = .tuple #[p.agg n m, .int .i64 0] ∧ (∀ i, i < n → Srt n ((goE n M m).known i) (KS i)) ∧ GRd n m (goC n M) KS p w'.heap.size w' ∧ Below w.heap.size w w') := by
  refine (go_good n m cap B A M w hn1 hn hm hB hr).mono ?_
  rintro e w' ⟨v, rfl, AC, cC, AK, cK, KV, VR, rfl, hL, hk⟩
  obtain ⟨aK, rfl, b1, t1⟩ := (hL.rd1 1 rfl : Rd w' w'.heap.size AK n KV) (by omega)
  have hall : ∀ i, ∃ (ks : List Kn) (A : Option Addr) (c : Nat), i < n → Srt n ((goE n M m).known i) ks ∧ KV i = .slice A ks.length c ∧ KLs n ks A w'.heap.size w' := fun i => by
    by_cases hi : i < n
    · obtain ⟨ks, h1, h2⟩ := hk i hi
      obtain ⟨A, c, F, e, hr1, hF⟩ := h2.rd (_ :: _ :: []) hL
      refine ⟨ks, A, c, fun _ => ⟨h1, e, fun t ht => ?_⟩⟩
      obtain ⟨ad, g, c', e1, h3, h4, h5, h6⟩ := hF.at_ hr1 ht
      exact ⟨ad, g, c', e1, h3, h4, h5, h6.rdG (_ :: _ :: []) hL⟩
    · exact ⟨[], none, 0, fun h => absurd h hi⟩
  obtain ⟨KS, h1⟩ := Classical.skolem.1 hall
  obtain ⟨gA, h2⟩ := Classical.skolem.1 h1
  obtain ⟨gc, h3⟩ := Classical.skolem.1 h2
  refine ⟨_, rfl, ⟨AC, aK, cC, cK, gA, gc⟩, KS, rfl, fun i hi => (h3 i hi).1, ⟨Nat.le_refl _, hL.rd1 0 rfl, fun j hj => (t1 j hj).trans (by rw [(h3 j hj).2.1]), b1, fun j hj => (h3 j hj).2.2⟩, hL.bel⟩
theorem go_bad' (n : Int) (m cap : Nat) (A : Option Addr) (w : World) (hm : m ≤ maxLen) (hb : playedB n m = false) :
    Calls Try.prog 8 #[.int .i64 n, .slice A m cap] w fun e w' => e = .returned (.tuple #[.agg #[.slice none 0 0, .slice none 0 0], .int .i64 1]) ∧ Below w.heap.size w w' :=
  go_bad n m cap A w hm fun h => by rw [playedB_iff.2 h] at hb; cases hb
set_option maxRecDepth 100000 in
set_option maxHeartbeats 1600000 in
theorem ints_any (n c1 c2 B : Nat) (A1 A2 : Option Addr) (x y : Nat → Nat) (b : Bool) (w : World) (hn : n ≤ 1000) (hb : b = true ↔ Eqv n x y) (hr : Rd w B A1 n (fun t => .int .i64 (x t : Nat))) (hr2 : Rd w B A2 n (fun t => .int .i64 (y t : Nat))) :
    Calls Try.prog 13 #[.slice A1 n c1, .slice A2 n c2] w fun e w' => e = .returned (.bool b) ∧ Sim w w' := by
  have HR := Lib.hid hr; clear hr
  have HR2 := Lib.hid hr2; clear hr2
  have HB := Lib.hid hb; clear hb
  have e0 : ((n : Int) != (n : Int)) = false := by simp
  go_enter Try.func13, Try.ntmps13
  go_wp2
  go_loopw [5] (fun i wr => ∃ k : Nat, k ≤ n ∧ i = .int .i64 k ∧ Hid (∀ t, t < k → x t = y t) ∧ Hid (Sim w wr)) (fun i _ => n - (intOf i).toNat)
  case atStart => exact ⟨0, by omega, rfl, Lib.hid (fun t ht => absurd ht (by omega)), Lib.hid ⟨rfl, rfl, rfl, rfl⟩⟩
  case round =>
    obtain ⟨k, hk, rfl, HE, HS⟩ := hrel
    by_cases hlt : k < n
    · obtain ⟨ad, rfl, _, hc⟩ := HR.out (by omega)
      obtain ⟨ad2, rfl, _, hc2⟩ := HR2.out (by omega)
      have h1 : wr.cell? (ad.add k) = some (.int .i64 (x k : Nat)) := (cell_sim HS.out _).trans (hc k hlt)
      have h2 : wr.cell? (ad2.add k) = some (.int .i64 (y k : Nat)) := (cell_sim HS.out _).trans (hc2 k hlt)
      clear hc hc2
      by_cases he : x k = y k
      · rw [← he] at h2
        have HE2 : Hid (∀ t, t < k + 1 → x t = y t) := Lib.hid fun t ht => (Nat.lt_succ_iff_lt_or_eq.1 ht).elim (HE.out t) (fun e => by subst e; exact he)
        have hb1 : (((x k : Nat) : Int) != ((x k : Nat) : Int)) = false := by simp
        clear he HE
        generalize ((x k : Nat) : Int) = u at h1 h2 hb1
        go_wp2
        refine wp_text_all (by kernel_rfl) (by kernel_rfl) (by kernel_rfl) (by repeat' (first | (with_reducible apply tame_then) | (with_reducible apply tame_block) | (with_reducible apply tame_scope) | exact tame_gives | exact tame_body (fun _ _ h => ⟨_, h.1⟩))) ?_
        go_wp2
        refine headed ?_
        go_wp2
        go_roundw
        case rel => exact ⟨k + 1, by omega, by go_num, HE2, Lib.hid HS.out⟩
        case measure => simp [intOf]; omega
      · obtain rfl : b = false := by
          cases b
          · rfl
          · exact absurd (HB.out.1 rfl k hlt) he
        have hb1 : (((x k : Nat) : Int) != ((y k : Nat) : Int)) = true := by simp; omega
        clear he HE HB
        generalize ((x k : Nat) : Int) = u at h1 hb1
        generalize ((y k : Nat) : Int) = v at h2 hb1
        go_wp2
        refine wp_text_all (by kernel_rfl) (by kernel_rfl) (by kernel_rfl) (by repeat' (first | (with_reducible apply tame_then) | (with_reducible apply tame_block) | (with_reducible apply tame_scope) | exact tame_gives | exact tame_body (fun _ _ h => ⟨_, h.1⟩))) ?_
        go_wp2
        refine headed ?_
        go_wp2
        go_ret
        exact ⟨rfl, HS.out⟩
    · obtain rfl : n = k := by omega
      obtain rfl : b = true := HB.out.2 HE.out
      go_wp2
      go_ret
      exact ⟨rfl, HS.out⟩
set_option maxRecDepth 100000 in
set_option maxHeartbeats 3200000 in
theorem less_any (n c1 c2 B : Nat) (A1 A2 : Option Addr) (x y : Nat → Nat) (b : Bool) (w : World) (hn : n ≤ 1000) (hb : b = true ↔ Lt n x y) (hr : Rd w B A1 n (fun t => .int .i64 (x t : Nat))) (hr2 : Rd w B A2 n (fun t => .int .i64 (y t : Nat))) :
    Calls Try.prog 12 #[.slice A1 n c1, .slice A2 n c2] w fun e w' => e = .returned (.bool b) ∧ Sim w w' := by
  have HR := Lib.hid hr; clear hr
  have HR2 := Lib.hid hr2; clear hr2
  have HB := Lib.hid hb; clear hb
  go_enter Try.func12, Try.ntmps12
  go_wp2
  go_loopw [5, 6] (fun l i wr => ∃ k : Nat, k ≤ n ∧ i = .int .i64 k ∧ l = .bool (anyTo (fun t => decide (x t < y t)) k) ∧ Hid (∀ t, t < k → x t ≤ y t) ∧ Hid (Sim w wr)) (fun _ i _ => n - (intOf i).toNat)
  case atStart => exact ⟨0, by omega, rfl, rfl, Lib.hid (fun t ht => absurd ht (by omega)), Lib.hid ⟨rfl, rfl, rfl, rfl⟩⟩
  case round =>
    obtain ⟨k, hk, rfl, rfl, HE, HS⟩ := hrel
    by_cases hlt : k < n
    · obtain ⟨ad, rfl, _, hc⟩ := HR.out (by omega)
      obtain ⟨ad2, rfl, _, hc2⟩ := HR2.out (by omega)
      have h1 : wr.cell? (ad.add k) = some (.int .i64 (x k : Nat)) := (cell_sim HS.out _).trans (hc k hlt)
      have h2 : wr.cell? (ad2.add k) = some (.int .i64 (y k : Nat)) := (cell_sim HS.out _).trans (hc2 k hlt)
      have HN : Hid (anyTo (fun t => decide (x t < y t)) (k + 1) = (anyTo (fun t => decide (x t < y t)) k || decide (x k < y k))) := Lib.hid rfl
      clear hc hc2
      generalize anyTo (fun t => decide (x t < y t)) k = fl at HN ⊢
      obtain ⟨u, hu⟩ : ∃ u : Int, u = ((x k : Nat) : Int) := ⟨_, rfl⟩
      obtain ⟨v, hv⟩ : ∃ v : Int, v = ((y k : Nat) : Int) := ⟨_, rfl⟩
      rw [← hu] at h1
      rw [← hv] at h2
      by_cases hgt : y k < x k
      · obtain rfl : b = false := by
          cases b
          · rfl
          · have := (HB.out.1 rfl).1 k hlt; omega
        have hvu : v < u := by omega
        clear hgt hu hv HE HB HN
        go_wp2
        refine wp_text_all (by kernel_rfl) (by kernel_rfl) (by kernel_rfl) (by repeat' (first | (with_reducible apply tame_then) | (with_reducible apply tame_block) | (with_reducible apply tame_scope) | exact tame_gives | exact tame_body (fun _ _ h => ⟨_, h.1⟩))) ?_
        go_wp2
        refine headed ?_
        go_wp2
        go_ret
        exact ⟨rfl, HS.out⟩
      · have HE2 : Hid (∀ t, t < k + 1 → x t ≤ y t) := Lib.hid fun t ht => (Nat.lt_succ_iff_lt_or_eq.1 ht).elim (HE.out t) (fun e => by subst e; omega)
        by_cases hl : x k < y k
        · have huv : u < v := by omega
          have HT : Hid (anyTo (fun t => decide (x t < y t)) (k + 1) = true) := Lib.hid (by rw [HN.out]; simp [hl])
          clear hgt hu hv HE HB HN hl
          cases fl
          all_goals
            go_wp2
            refine wp_text_all (by kernel_rfl) (by kernel_rfl) (by kernel_rfl) (by repeat' (first | (with_reducible apply tame_then) | (with_reducible apply tame_block) | (with_reducible apply tame_scope) | exact tame_gives | exact tame_body (fun _ _ h => ⟨_, h.1⟩))) ?_
            go_wp2
            refine headed ?_
            go_wp2
            refine wp_text_all (by kernel_rfl) (by kernel_rfl) (by kernel_rfl) (by repeat' (first | (with_reducible apply tame_then) | (with_reducible apply tame_block) | (with_reducible apply tame_scope) | exact tame_gives | exact tame_body (fun _ _ h => ⟨_, h.1⟩))) ?_
            go_wp2
            refine headed ?_
            go_wp2
            go_roundw
            case rel => exact ⟨k + 1, by omega, by go_num, by rw [HT.out], HE2, Lib.hid HS.out⟩
            case measure => simp [intOf]; omega
        · have huv : v = u := by omega
          subst huv
          have HT : Hid (anyTo (fun t => decide (x t < y t)) (k + 1) = fl) := Lib.hid (by rw [HN.out]; simp [hl])
          clear hgt hu hv HE HB HN hl
          cases fl
          all_goals
            go_wp2
            refine wp_text_all (by kernel_rfl) (by kernel_rfl) (by kernel_rfl) (by repeat' (first | (with_reducible apply tame_then) | (with_reducible apply tame_block) | (with_reducible apply tame_scope) | exact tame_gives | exact tame_body (fun _ _ h => ⟨_, h.1⟩))) ?_
            go_wp2
            refine headed ?_
            go_wp2
            refine wp_text_all (by kernel_rfl) (by kernel_rfl) (by kernel_rfl) (by repeat' (first | (with_reducible apply tame_then) | (with_reducible apply tame_block) | (with_reducible apply tame_scope) | exact tame_gives | exact tame_body (fun _ _ h => ⟨_, h.1⟩))) ?_
            go_wp2
            refine headed ?_
            go_wp2
            go_roundw
            case rel => exact ⟨k + 1, by omega, by go_num, by rw [HT.out], HE2, Lib.hid HS.out⟩
            case measure => simp [intOf]; omega
    · obtain rfl : n = k := by omega
      have HX : Hid (anyTo (fun t => decide (x t < y t)) n = b) := Lib.hid (by
        rw [Bool.eq_iff_iff, HB.out, anyTo_iff]
        exact ⟨fun ⟨t, ht, h⟩ => ⟨HE.out, t, ht, by simpa using h⟩, fun h => by obtain ⟨t, ht, h⟩ := h.2; exact ⟨t, ht, by simpa using h⟩⟩)
      generalize anyTo (fun t => decide (x t < y t)) n = fl at HX ⊢
      go_wp2
      go_ret
      exact ⟨ret_bool HX.out, HS.out⟩
end Go.Proofs.Ytdpigpjcldcoaaa
