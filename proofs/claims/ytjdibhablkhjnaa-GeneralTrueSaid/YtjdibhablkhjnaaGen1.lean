/- The generals in memory; the walks of told and of on. -/
import Derived.Test.YtjdibhablkhjnaaGenMath
import Derived.Test.YtjdibhablkhjnaaShr
import Derived.Test.YtjdibhablkhjnaaText
import Derived.Test.YtjdibhablkhjnaaKept
import Derived.Deep.QuietTactic
import Derived.BigQuiet
set_option linter.unusedVariables false
set_option linter.unusedSimpArgs false
namespace Go.Proofs.Ytjdibhablkhjnaa
open Go.RowKit

/-- The camp in block g. -/
def CampAt (w : World) (g : Nat) (c : Camp) (A : Option Addr) (cap : Nat) : Prop :=
  w.heap[g]? = some (.cells #[.int .i64 c.n, .int .i64 c.d, .bool c.ord, .int .u32 c.L, .slice A c.nl cap] 32 (0, 0))
/-- A path, the last host in block g. -/
def PathAt (w : World) : List Nat → Nat → Prop
  | [], _ => False
  | j :: p, g => ∃ fr, w.heap[g]? = some (.cells #[.int .u32 (pset (j :: p) : Nat), .int .i64 (pnum (j :: p) : Nat), .int .i64 ((p.length + 1 : Nat)), .int .i64 j, .pointer fr] 35 (0, 0)) ∧ (p = [] ∨ ∃ g', fr = some ⟨g', 0, none⟩ ∧ PathAt w p g')
theorem PathAt.lt {w : World} : ∀ {p : List Nat} {g : Nat}, PathAt w p g → g < w.heap.size
  | [], _, h => h.elim
  | _ :: _, _, ⟨_, h, _⟩ => (Array.getElem?_eq_some_iff.1 h).1
theorem PathAt.keep {w w' : World} (hk : ∀ k, k < w.heap.size → w'.heap[k]? = w.heap[k]?) : ∀ {p : List Nat} {g : Nat}, PathAt w p g → PathAt w' p g
  | [], _, h => h.elim
  | _ :: _, _, h => by
    have hlt := h.lt
    obtain ⟨fr, h1, h2⟩ := h
    refine ⟨fr, by rw [hk _ hlt]; exact h1, ?_⟩
    rcases h2 with h2 | ⟨g', h3, h4⟩
    · exact .inl h2
    · exact .inr ⟨g', h3, h4.keep hk⟩
theorem CampAt.lt {w : World} {g : Nat} {c : Camp} {A : Option Addr} {cap : Nat} (h : CampAt w g c A cap) : g < w.heap.size := by
  have h : w.heap[g]? = some _ := h
  exact (Array.getElem?_eq_some_iff.1 h).1
theorem CampAt.keep {w w' : World} {g : Nat} {c : Camp} {A : Option Addr} {cap : Nat} (hk : ∀ k, k < w.heap.size → w'.heap[k]? = w.heap[k]?) (h : CampAt w g c A cap) : CampAt w' g c A cap := (hk g h.lt).trans h
theorem PathAt.sim {w w' : World} {p : List Nat} {g : Nat} (h : PathAt w p g) (e : Sim w w') : PathAt w' p g := h.keep fun k _ => by rw [e.1]
theorem CampAt.sim {w w' : World} {g : Nat} {c : Camp} {A : Option Addr} {cap : Nat} (h : CampAt w g c A cap) (e : Sim w w') : CampAt w' g c A cap := h.keep fun k _ => by rw [e.1]
theorem CampAt.cells {w : World} {g : Nat} {c : Camp} {A : Option Addr} {cap : Nat} (h : CampAt w g c A cap) :
    w.cell? ⟨g, 0, none⟩ = some (.int .i64 c.n) ∧ w.cell? ⟨g, 1, none⟩ = some (.int .i64 c.d) ∧ w.cell? ⟨g, 2, none⟩ = some (.bool c.ord) ∧ w.cell? ⟨g, 3, none⟩ = some (.int .u32 c.L) ∧ w.cell? ⟨g, 4, none⟩ = some (.slice A c.nl cap) := by
  have h : w.heap[g]? = some _ := h
  refine ⟨?_, ?_, ?_, ?_, ?_⟩ <;> (rw [cell_of_row _ _ _ _ _ _ h]; rfl)
theorem path_cells {w : World} {j : Nat} {p : List Nat} {g : Nat} (h : PathAt w (j :: p) g) : ∃ fr, (p = [] ∨ ∃ g', fr = some ⟨g', 0, none⟩ ∧ PathAt w p g') ∧
    w.cell? ⟨g, 0, none⟩ = some (.int .u32 (pset (j :: p) : Nat)) ∧ w.cell? ⟨g, 1, none⟩ = some (.int .i64 (pnum (j :: p) : Nat)) ∧ w.cell? ⟨g, 2, none⟩ = some (.int .i64 ((p.length + 1 : Nat))) ∧ w.cell? ⟨g, 3, none⟩ = some (.int .i64 j) ∧ w.cell? ⟨g, 4, none⟩ = some (.pointer fr) := by
  obtain ⟨fr, h1, h2⟩ := h
  refine ⟨fr, h2, ?_, ?_, ?_, ?_, ?_⟩ <;> (rw [cell_of_row _ _ _ _ _ _ h1]; rfl)
theorem pnum_lt {n : Nat} (hn : n ≤ 7) : ∀ {p : List Nat}, PathOk n p → pnum p < 8 ^ p.length
  | [], _ => by simp [pnum]
  | j :: p, ⟨h1, _, h3⟩ => by
    have := pnum_lt hn h3
    rw [pnum, List.length_cons, Nat.pow_succ]
    omega
theorem pnum_512 {n : Nat} (hn : n ≤ 7) {p : List Nat} (h : PathOk n p) (hl : p.length ≤ 3) : pnum p < 512 :=
  Nat.lt_of_lt_of_le (pnum_lt hn h) (Nat.le_trans (Nat.pow_le_pow_right (by omega) hl) (by decide))

/-- What the walks ask of the camp. -/
structure CampOk (c : Camp) : Prop where
  n : 1 ≤ c.n ∧ c.n ≤ 7
  L : c.L < 2 ^ c.n
  d : c.d ≤ 2
  nl : c.L ≠ 0 → 0 < c.nl
  big : c.nl ≤ 9223372036854775807
theorem CampOk.l32 {c : Camp} (h : CampOk c) : c.L < 4294967296 := Nat.lt_of_lt_of_le h.L (Nat.le_trans (Nat.pow_le_pow_right (by omega) h.n.2) (by decide))

set_option maxRecDepth 100000 in
set_option maxHeartbeats 1600000 in
theorem told_any (c : Camp) (hc : CampOk c) (A : Option Addr) (cap B gc : Nat) : ∀ (p : List Nat) (gp to : Nat) (w : World), PathOk c.n p → p.length ≤ 3 → to < 7 → CampAt w gc c A cap → PathAt w p gp → Rd w B A c.nl (fun j => .bool (c.lies j)) →
    Calls Try.prog 9 #[.pointer (some ⟨gc, 0, none⟩), .pointer (some ⟨gp, 0, none⟩), .int .i64 to] w fun e w' => e = .returned (.bool (toldB c p to)) ∧ Sim w w' := by
  intro p
  induction p with
  | nil => intro gp to w _ _ _ _ h; exact h.elim
  | cons j p ih =>
    intro gp to w hp hl ht hcamp hpath hlies
    have HI := Lib.hid ih; clear ih
    have HC := Lib.hid hcamp
    have HP := Lib.hid hpath
    have HR := Lib.hid hlies
    have HK := Lib.hid hp
    have HO := Lib.hid hc
    have hN := pnum_512 hc.n.2 hp hl
    have hj : j < 7 := by have := hp.1; have := hc.n.2; omega
    obtain ⟨c0, c1, c2, c3, c4⟩ := hcamp.cells
    obtain ⟨fr, hfr, p0, p1, p2, p3, p4⟩ := path_cells hpath
    have HF := Lib.hid hfr
    have HL := Lib.hid hl
    have hb := bit_at (i := j) hc.l32
    have hnl := hc.nl
    have hbig := hc.big
    clear hcamp hpath hlies hp hc hfr c0 c1 p0 hl
    have HT : Hid (toldB c (j :: p) to = if c.L.testBit j then c.lies ((pnum (j :: p) * 8 + to) % c.nl) else toldB c p j) := rfl
    obtain ⟨N, hN2⟩ : ∃ N, pnum (j :: p) = N := ⟨_, rfl⟩
    rw [hN2] at HT hN p1
    clear hN2
    cases hbit : c.L.testBit j
    · rw [hbit] at hb HT
      have HT : Hid (toldB c (j :: p) to = toldB c p j) := HT.out
      clear hbit hnl
      rcases p with _ | ⟨q, p'⟩
      · have HT : Hid (toldB c [j] to = c.ord) := HT.out
        go_enter Try.func9, Try.ntmps9
        go_wp2
        refine wp_text_all (by kernel_rfl) (by kernel_rfl) (by kernel_rfl) (by repeat' (first | (with_reducible apply tame_then) | (with_reducible apply tame_block) | (with_reducible apply tame_scope) | exact tame_gives | exact tame_body (fun _ _ h => ⟨_, h.1⟩))) ?_
        go_wp2
        refine headed ?_
        go_wp2
        go_ret
        exact ⟨ret_bool HT.out.symm, rfl, rfl, rfl, rfl⟩
      · obtain ⟨g', rfl, hg'⟩ := HF.out.resolve_left (by simp)
        have HG := Lib.hid hg'
        clear hg'
        have hs : ((((q :: p').length + 1 : Nat) : Int) == 1) = false := beq_eq_false_iff_ne.2 (by simp only [List.length_cons]; omega)
        go_enter Try.func9, Try.ntmps9
        go_wp2
        refine wp_text_all (by kernel_rfl) (by kernel_rfl) (by kernel_rfl) (by repeat' (first | (with_reducible apply tame_then) | (with_reducible apply tame_block) | (with_reducible apply tame_scope) | exact tame_gives | exact tame_body (fun _ _ h => ⟨_, h.1⟩))) ?_
        go_wp2
        refine headed ?_
        go_wp2
        refine wp_text 9 (by kernel_rfl) (by kernel_rfl) (by kernel_rfl) (by repeat' (first | (with_reducible apply tame_then) | (with_reducible apply tame_block) | (with_reducible apply tame_scope) | exact tame_gives | exact tame_body (fun _ _ h => ⟨_, h.1⟩))) ?_
        simp only [List.take_succ_cons, List.take_zero, List.drop_succ_cons, List.drop_zero]
        go_wp2
        refine headed ?_
        go_wp2_with fail
        refine (HI.out g' j w.drew.drew HK.out.2.2 (by have := HL.out; simp at this ⊢; omega) hj (by exact HC.out.sim ⟨rfl, rfl, rfl, rfl⟩) (by exact HG.out.sim ⟨rfl, rfl, rfl, rfl⟩) (by exact HR.out)).mono ?_
        rintro e w1 ⟨rfl, hs1⟩
        go_wp2
        go_ret
        exact ⟨ret_bool HT.out.symm, hs1⟩
    · rw [hbit] at hb HT
      have HT : Hid (toldB c (j :: p) to = c.lies ((N * 8 + to) % c.nl)) := HT.out
      have hpos : 0 < c.nl := hnl (fun h => by rw [h] at hbit; simp at hbit)
      have hx : (N * 8 + to) % c.nl < c.nl := Nat.mod_lt _ hpos
      obtain ⟨ad, rfl, _, hcl⟩ := HR.out hpos
      have hck := hcl _ hx
      have hxi : ((N : Int) * 8 + to) % c.nl = ((N * 8 + to) % c.nl : Nat) := by push_cast; rfl
      have hx1 : ((N : Int) * 8 + to) % c.nl < c.nl := by rw [hxi]; exact Int.ofNat_lt.2 hx
      have hx0 : 0 ≤ ((N : Int) * 8 + to) % c.nl := by rw [hxi]; omega
      have hxe : (((N : Int) * 8 + to) % c.nl).toNat = (N * 8 + to) % c.nl := by rw [hxi]; omega
      clear hxi
      have hck2 : w.cell? (ad.add (((N : Int) * 8 + to) % c.nl).toNat) = some (.bool (c.lies ((N * 8 + to) % c.nl))) := by rw [hxe]; exact hck
      clear hcl hbit hnl hxe
      go_enter Try.func9, Try.ntmps9
      go_wp2
      refine wp_text_all (by kernel_rfl) (by kernel_rfl) (by kernel_rfl) (by repeat' (first | (with_reducible apply tame_then) | (with_reducible apply tame_block) | (with_reducible apply tame_scope) | exact tame_gives | exact tame_body (fun _ _ h => ⟨_, h.1⟩))) ?_
      go_wp2
      refine headed ?_
      go_wp2
      refine wp_text_all (by kernel_rfl) (by kernel_rfl) (by kernel_rfl) (by repeat' (first | (with_reducible apply tame_then) | (with_reducible apply tame_block) | (with_reducible apply tame_scope) | exact tame_gives | exact tame_body (fun _ _ h => ⟨_, h.1⟩))) ?_
      go_wp2
      refine headed ?_
      go_wp2
      go_ret
      exact ⟨ret_bool HT.out.symm, rfl, rfl, rfl, rfl⟩

set_option maxRecDepth 100000 in
set_option maxHeartbeats 1600000 in
theorem on_any (n : Nat) (hn : n ≤ 7) (j q : Nat) (p : List Nat) (gp : Nat) (w : World) (hp : PathOk n (q :: p)) (hl : p.length ≤ 3) (hj : j < 7) (hpath : PathAt w (q :: p) gp) :
    Calls Try.prog 10 #[.pointer (some ⟨gp, 0, none⟩), .int .i64 j] w fun e w' => e = .returned (.pointer (some ⟨w.heap.size, 0, none⟩)) ∧ PathAt w' (j :: q :: p) w.heap.size ∧ Below w.heap.size w w' := by
  have HP := Lib.hid hpath
  have hN : pnum (q :: p) < 4096 := Nat.lt_of_lt_of_le (pnum_lt hn hp) (Nat.le_trans (Nat.pow_le_pow_right (by omega) (show (q :: p).length ≤ 4 by simp; omega)) (by decide))
  have hs32 : pset (q :: p) < 4294967296 := Nat.lt_of_lt_of_le (pset_lt hp) (Nat.le_trans (Nat.pow_le_pow_right (by omega) hn) (by decide))
  have HO := Lib.hid (or_pow (m := j) hs32 (by omega))
  obtain ⟨fr, hfr, p0, p1, p2, p3, p4⟩ := path_cells hpath
  have HS : Hid (pset (j :: q :: p) = pset (q :: p) ||| 2 ^ j) := rfl
  have HN : Hid (pnum (j :: q :: p) = pnum (q :: p) * 8 + j) := rfl
  obtain ⟨N, hN2⟩ : ∃ N, pnum (q :: p) = N := ⟨_, rfl⟩
  obtain ⟨S, hS2⟩ : ∃ S, pset (q :: p) = S := ⟨_, rfl⟩
  rw [hN2] at hN p1 HN
  rw [hS2] at hs32 p0 HO HS
  clear hN2 hS2 hpath hfr hp p3 p4
  go_enter Try.func10, Try.ntmps10
  go_wp2
  refine wp_text 21 (by kernel_rfl) (by kernel_rfl) (by kernel_rfl) (by repeat' (first | (with_reducible apply tame_then) | (with_reducible apply tame_block) | (with_reducible apply tame_scope) | exact tame_gives | exact tame_body (fun _ _ h => ⟨_, h.1⟩))) ?_
  simp only [List.take_succ_cons, List.take_zero, List.drop_succ_cons, List.drop_zero]
  go_wp2
  refine headed ?_
  go_wp2
  go_ret
  refine ⟨rfl, ⟨some ⟨gp, 0, none⟩, ?_, .inr ⟨gp, rfl, HP.out.keep fun k hk => ?_⟩⟩, below_sim ((Below.refl _ _).alloc (Nat.le_refl _) _) ⟨rfl, rfl, rfl, rfl⟩⟩
  · rw [HO.out, ← HS.out]
    show (w.heap.push _)[w.heap.size]? = _
    rw [Array.getElem?_push_size, HN.out]
    push_cast
    rfl
  · exact Below.heap_alloc _ _ k hk
end Go.Proofs.Ytjdibhablkhjnaa
