/- What the laws of logs read, and ask. -/
import Derived.Test.YtfhmabpalimcnaaLg10
import Derived.Test.YtfhmabpalimcnaaLgInv3
import Derived.Test.YtfhmabpalimcnaaPlayed
set_option linter.unusedVariables false
set_option linter.unusedSimpArgs false
namespace Go.Proofs.Ytfhmabpalimcnaa
open Go.RowKit

/-- Where an answer's slices lie. -/
structure LP where
  AC : Option Addr
  aT : Addr
  aR : Addr
  aG : Addr
  aS : Addr
  cC : Nat
  cT : Nat
  cR : Nat
  cG : Nat
  cS : Nat
  gA : Nat → Option Addr
  gc : Nat → Nat
abbrev LP.l (p : LP) (n m : Nat) : List Value := [.slice p.AC m p.cC, .slice (some p.aT) n p.cT, .slice (some p.aR) n p.cR, .slice (some p.aG) n p.cG, .slice (some p.aS) n p.cS]
abbrev LP.agg (p : LP) (n m : Nat) : Value := .agg #[.slice p.AC m p.cC, .slice (some p.aT) n p.cT, .slice (some p.aR) n p.cR, .slice (some p.aG) n p.cG, .slice (some p.aS) n p.cS]
structure LRd (n : Nat) (S : LS) (p : LP) (B : Nat) (w : World) : Prop where
  le : B ≤ w.heap.size
  T : ∀ j, j < n → w.cell? (p.aT.add j) = some (.int .i64 (S.e.T j : Nat))
  R : ∀ j, j < n → w.cell? (p.aR.add j) = some (.int .i64 (S.e.R j))
  G : ∀ j, j < n → w.cell? (p.aG.add j) = some (.slice (p.gA j) (S.lg j).length (p.gc j))
  U : ∀ j, j < n → w.cell? (p.aS.add j) = some (.int .i64 (S.su j : Nat))
  b : p.aT.block < B ∧ p.aR.block < B ∧ p.aG.block < B ∧ p.aS.block < B
  L : ∀ j, j < n → (S.lg j).length ≤ p.gc j ∧ p.gc j ≤ maxLen ∧ Rd w B (p.gA j) ((S.lg j).length * 2) (entF (S.lg j))
theorem LRd.below {n : Nat} {S : LS} {p : LP} {B : Nat} {w w' : World} (h : LRd n S p B w) (hb : Below B w w') : LRd n S p B w' :=
  ⟨Nat.le_trans h.le hb.size, fun j hj => (hb.cell (by rw [addr_block]; exact h.b.1)).trans (h.T j hj), fun j hj => (hb.cell (by rw [addr_block]; exact h.b.2.1)).trans (h.R j hj), fun j hj => (hb.cell (by rw [addr_block]; exact h.b.2.2.1)).trans (h.G j hj), fun j hj => (hb.cell (by rw [addr_block]; exact h.b.2.2.2)).trans (h.U j hj), h.b,
    fun j hj => ⟨(h.L j hj).1, (h.L j hj).2.1, (h.L j hj).2.2.below hb⟩⟩
theorem LRd.to {n : Nat} {S : LS} {p : LP} {B : Nat} {w w' : World} (h : LRd n S p B w) (hb : Below w.heap.size w w') : LRd n S p B w' := h.below (hb.mono h.le)
/-- An entry of an answer's log. -/
theorem rd_ent {w : World} {B n : Nat} {A : Option Addr} {l : List Ent} (h : Rd w B A (n * 2) (entF l)) {k : Nat} (hk : k < n) : ∃ ad, A = some ad ∧ ad.block < B ∧ w.cell? (ad.add (k * 2)) = some (.int .i64 (trm l k : Nat)) ∧ w.cell? ⟨(ad.add (k * 2)).block, (ad.add (k * 2)).off + 1, none⟩ = some (.int .i64 (vle l k)) := by
  obtain ⟨ad, e, hb, hc⟩ := h (by omega)
  have h1 := hc (k * 2 + 1) (by omega)
  rw [← addr_add] at h1
  rw [entF_1] at h1
  exact ⟨ad, e, hb, (hc (k * 2) (by omega)).trans (by rw [entF_0]), h1⟩
theorem rd_at {w : World} {B n : Nat} {A : Option Addr} {f : Nat → Value} (h : Rd w B A n f) (hn : 1 ≤ n) : ∃ ad, A = some ad ∧ ad.block < B ∧ ∀ j, j < n → w.cell? (ad.add j) = some (f j) := h (by omega)
theorem lg_play (n m cap B : Nat) (A : Option Addr) (M : Mv) (w : World) (hn1 : 1 ≤ n) (hn : n ≤ 6) (hm : m ≤ 60) (hB : B ≤ w.heap.size) (hr : Rd w B A (m * 4) (mvF M)) :
    Calls Try.prog 8 #[.int .i64 n, .slice A m cap] w (Gives fun v w' => ∃ p : LP, v = .tuple #[p.agg n m, .int .i64 0] ∧ LRd n (lgE n M m) p w'.heap.size w' ∧ Below w.heap.size w w') := by
  refine (lg_good n m cap B A M w hn1 hn hm hB hr).mono ?_
  rintro e w' ⟨v, rfl, ⟨AC, AT, AR, AG, AS, cC, cT, cR, cG, cS, gG, rfl, -, r1, r2, r3, r4, hL⟩, hb⟩
  obtain ⟨aT, rfl, b1, t1⟩ := rd_at r1 hn1
  obtain ⟨aR, rfl, b2, t2⟩ := rd_at r2 hn1
  obtain ⟨aG, rfl, b3, t3⟩ := rd_at r3 hn1
  obtain ⟨aS, rfl, b4, t4⟩ := rd_at r4 hn1
  obtain ⟨gA, hgA⟩ := choose_fun (none : Option Addr) (fun (i : Nat) (A : Option Addr) => ∃ cap, gG i = .slice A ((lgE n M m).lg i).length cap ∧ ((lgE n M m).lg i).length ≤ cap ∧ cap ≤ maxLen ∧ Rd w' w'.heap.size A (((lgE n M m).lg i).length * 2) (entF ((lgE n M m).lg i)))
  obtain ⟨gc, hgc⟩ := choose_fun 0 (fun (i : Nat) (cap : Nat) => gG i = .slice (gA i) ((lgE n M m).lg i).length cap ∧ ((lgE n M m).lg i).length ≤ cap ∧ cap ≤ maxLen ∧ Rd w' w'.heap.size (gA i) (((lgE n M m).lg i).length * 2) (entF ((lgE n M m).lg i)))
  have hg := fun i hi => hgc i (hgA i (hL i hi))
  exact ⟨_, rfl, ⟨AC, aT, aR, aG, aS, cC, cT, cR, cG, cS, gA, gc⟩, rfl, ⟨Nat.le_refl _, t1, t2, fun j hj => (t3 j hj).trans (by rw [(hg j hj).1]), t4, ⟨b1, b2, b3, b4⟩, fun j hj => (hg j hj).2⟩, hb⟩
theorem lg_bad' (n : Int) (m cap : Nat) (A : Option Addr) (w : World) (hm : m ≤ maxLen) (hb : playedB n m = false) :
    Calls Try.prog 8 #[.int .i64 n, .slice A m cap] w fun e w' => e = .returned (.tuple #[.agg #[.slice none 0 0, .slice none 0 0, .slice none 0 0, .slice none 0 0, .slice none 0 0], .int .i64 1]) ∧ Below w.heap.size w w' :=
  lg_bad n m cap A w hm fun h => by rw [playedB_iff.2 h] at hb; cases hb
theorem cast_beqN {x y : Nat} {b : Bool} (h : (x == y) = b) : (((x : Nat) : Int) == ((y : Nat) : Int)) = b := by
  rw [← h, Bool.eq_iff_iff, beq_iff_eq, beq_iff_eq]; omega
def bgB (la lb : List Ent) (na nb : Nat) : Prop := nb ≤ na ∧ ∀ k, k < nb → la[k]? = lb[k]?
set_option maxRecDepth 100000 in
set_option maxHeartbeats 1600000 in
theorem begins_any (la lb : List Ent) (na nb ca cb B : Nat) (A X : Option Addr) (b : Bool) (w : World) (ha : na ≤ la.length) (hb : nb ≤ lb.length) (hn : nb ≤ 100) (hna : na ≤ 100) (hbb : b = true ↔ bgB la lb na nb) (hB : B ≤ w.heap.size) (hA : Rd w B A (na * 2) (entF la)) (hX : Rd w B X (nb * 2) (entF lb)) :
    Calls Try.prog 12 #[.slice A na ca, .slice X nb cb] w fun e w' => e = .returned (.bool b) ∧ Below w.heap.size w w' := by
  have HA := Lib.hid hA
  have HX := Lib.hid hX
  have HBB := Lib.hid hbb
  clear hA hX hbb
  by_cases hle : na < nb
  · obtain rfl : b = false := by
      cases b
      · rfl
      · have := (HBB.out.1 rfl).1; omega
    go_enter Try.func12, Try.ntmps12
    go_wp2
    go_ret
    exact ⟨rfl, Below.refl _ _⟩
  · go_enter Try.func12, Try.ntmps12
    go_wp2
    go_loopw [5] (fun x wr => ∃ q : Nat, q ≤ nb ∧ x = .int .i64 q ∧ Hid (∀ k, k < q → la[k]? = lb[k]?) ∧ Hid (Below w.heap.size w wr)) (fun x _ => nb - (intOf x).toNat)
    case atStart => exact ⟨0, by omega, rfl, Lib.hid (fun k hk => by omega), Lib.hid (Below.refl _ _)⟩
    case round =>
      obtain ⟨q, hq, rfl, HE, HW⟩ := hrel
      by_cases hlt : q < nb
      · obtain ⟨ad, rfl, -, y0, y1⟩ := rd_ent (HA.out.below (HW.out.mono hB)) (k := q) (by omega)
        obtain ⟨ax, rfl, -, z0, z1⟩ := rd_ent (HX.out.below (HW.out.mono hB)) (k := q) (by omega)
        have HS := Lib.hid (same_ent (a := la) (b := lb) (k := q) (by omega) (by omega))
        obtain ⟨f1, hf1⟩ : ∃ f, (trm la q == trm lb q) = f := ⟨_, rfl⟩
        obtain ⟨f2, hf2⟩ : ∃ f, (vle la q == vle lb q) = f := ⟨_, rfl⟩
        have hf1' := cast_beqN hf1
        have HF := Lib.hid hf1
        have HF2 := Lib.hid hf2
        generalize trm la q = u1 at y0 HS hf1' HF hf1
        generalize trm lb q = u2 at z0 HS hf1' HF hf1
        generalize vle la q = v1 at y1 HS hf2 HF2
        generalize vle lb q = v2 at z1 HS hf2 HF2
        clear hf1
        by_cases hall : f1 = true ∧ f2 = true
        · obtain ⟨rfl, rfl⟩ := hall
          have hqq : la[q]? = lb[q]? := HS.out.2 ⟨by simpa using HF.out, by simpa using HF2.out⟩
          have HE2 : Hid (∀ k, k < q + 1 → la[k]? = lb[k]?) := Lib.hid fun k hk => by
            rcases Nat.lt_or_ge k q with h1 | h1
            · exact HE.out k h1
            · rw [show k = q by omega]; exact hqq
          clear hqq HE
          go_wp2
          refine wp_text_all (by kernel_rfl) (by kernel_rfl) (by kernel_rfl) (by repeat' (first | (with_reducible apply tame_then) | (with_reducible apply tame_block) | (with_reducible apply tame_scope) | exact tame_gives | exact tame_body (fun _ _ h => ⟨_, h.1⟩))) ?_
          go_wp2
          refine headed ?_
          go_wp2
          go_roundw
          case rel => exact ⟨q + 1, by omega, by go_num, HE2, Lib.hid HW.out.drew⟩
          case measure => first | (simp [intOf]; done) | (simp [intOf]; omega)
        · have hne : ¬ la[q]? = lb[q]? := fun h => hall ⟨by rw [← HF.out]; simpa using (HS.out.1 h).1, by rw [← HF2.out]; simpa using (HS.out.1 h).2⟩
          obtain rfl : b = false := by
            cases b
            · rfl
            · exact absurd ((HBB.out.1 rfl).2 q hlt) hne
          clear hne HBB
          cases f1
          · go_wp2
            refine wp_text_all (by kernel_rfl) (by kernel_rfl) (by kernel_rfl) (by repeat' (first | (with_reducible apply tame_then) | (with_reducible apply tame_block) | (with_reducible apply tame_scope) | exact tame_gives | exact tame_body (fun _ _ h => ⟨_, h.1⟩))) ?_
            go_wp2
            refine headed ?_
            go_wp2
            go_ret
            exact ⟨rfl, HW.out.drew⟩
          · cases f2
            · go_wp2
              refine wp_text_all (by kernel_rfl) (by kernel_rfl) (by kernel_rfl) (by repeat' (first | (with_reducible apply tame_then) | (with_reducible apply tame_block) | (with_reducible apply tame_scope) | exact tame_gives | exact tame_body (fun _ _ h => ⟨_, h.1⟩))) ?_
              go_wp2
              refine headed ?_
              go_wp2
              go_ret
              exact ⟨rfl, HW.out.drew⟩
            · exact absurd ⟨rfl, rfl⟩ hall
      · obtain rfl : b = true := HBB.out.2 ⟨by omega, fun k hk => HE.out k (by omega)⟩
        go_wp2
        go_ret
        exact ⟨rfl, HW.out⟩
theorem entries_any (la lb : List Ent) (n ca cb B : Nat) (A X : Option Addr) (w : World) (ha : n ≤ la.length) (hb : n ≤ lb.length) (hn : n ≤ 100) (he : ∀ k, k < n → la[k]? = lb[k]?) (hB : B ≤ w.heap.size) (hA : Rd w B A (n * 2) (entF la)) (hX : Rd w B X (n * 2) (entF lb)) :
    Calls Try.prog 11 #[.slice A n ca, .slice X n cb] w fun e w' => e = .returned (.bool true) ∧ Below w.heap.size w w' := by
  have HA := Lib.hid hA
  have HX := Lib.hid hX
  have HE := Lib.hid he
  clear hA hX he
  have e1 : ((n : Int) == (n : Int)) = true := beq_self_eq_true _
  go_enter Try.func11, Try.ntmps11
  go_wp2_with fail
  refine (begins_any la lb n n ca cb B A X true w ha hb hn hn ⟨fun _ => ⟨Nat.le_refl _, HE.out⟩, fun _ => rfl⟩ hB HA.out HX.out).mono ?_
  rintro e w1 ⟨rfl, h1⟩
  go_wp2
  go_ret
  exact ⟨rfl, h1⟩
set_option maxRecDepth 100000 in
set_option maxHeartbeats 1600000 in
theorem logged_any (n m B : Nat) (S : LS) (p : LP) (w : World) (hn6 : n ≤ 6) (hS : ∀ i, S.su i ≤ (S.lg i).length) (hle : ∀ i, (S.lg i).length ≤ 30) (h : LRd n S p B w) :
    Calls Try.prog 10 #[p.agg n m, .int .i64 n, .int .i64 m] w fun e w' => e = .returned (.bool true) ∧ Below w.heap.size w w' := by
  have H := Lib.hid h
  have HS := Lib.hid hS
  have HL := Lib.hid hle
  clear h hS hle
  have e1 : ((n : Int) != (n : Int)) = false := by simp
  have e2 : ((m : Int) != (m : Int)) = false := by simp
  have HW0 : Hid (Lay w (w.alloc (.cells (p.l n m).toArray 27)) [blkG w.heap.size (p.l n m)]) := Lib.hid ((Lay.nil w).newB (p.l n m) 27 5 rfl _ rfl)
  go_enter Try.func10, Try.ntmps10
  go_wp2
  go_loopw [7] (fun x wr => ∃ q : Nat, q ≤ n ∧ x = .int .i64 q ∧ Hid (Lay w wr [blkG w.heap.size (p.l n m)])) (fun x _ => n - (intOf x).toNat)
  case atStart => exact ⟨0, by omega, rfl, HW0⟩
  case round =>
    clear HW0
    obtain ⟨q, hq, rfl, HQ⟩ := hrel
    by_cases hlt : q < n
    · have HQ2 := H.out.to HQ.out.bel
      have g1 := HQ2.G q hlt
      have g2 := HQ2.U q hlt
      have c3 := HQ.out.cellB 0 rfl 3 (by omega)
      have c4 := HQ.out.cellB 0 rfl 4 (by omega)
      simp only [ofL_3, ofL_4] at c3 c4
      have hs := HS.out q
      have hl := HL.out q
      clear HQ2
      generalize S.su q = x at g2 hs
      generalize (S.lg q).length = y at g1 hs hl
      go_wp2
      refine wp_text_all (by kernel_rfl) (by kernel_rfl) (by kernel_rfl) (by repeat' (first | (with_reducible apply tame_then) | (with_reducible apply tame_block) | (with_reducible apply tame_scope) | exact tame_gives | exact tame_body (fun _ _ h => ⟨_, h.1⟩))) ?_
      go_wp2
      refine headed ?_
      go_wp2
      go_roundw
      case rel => exact ⟨q + 1, by omega, by go_num, HQ.out.drew⟩
      case measure => first | (simp [intOf]; done) | (simp [intOf]; omega)
    · obtain rfl : q = n := by omega
      go_wp2
      go_ret
      exact ⟨rfl, HQ.out.bel⟩
end Go.Proofs.Ytfhmabpalimcnaa
