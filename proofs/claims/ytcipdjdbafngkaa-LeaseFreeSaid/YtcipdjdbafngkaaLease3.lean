/- The walk of lease.Play, the good calls. -/
import Derived.Test.YtcipdjdbafngkaaLease2
import Derived.Test.YtcipdjdbafngkaaLan
import Derived.Test.YtcipdjdbafngkaaBits
import Derived.Test.YtcipdjdbafngkaaHeap
set_option linter.unusedVariables false
set_option linter.unusedSimpArgs false
namespace Go.Proofs.Ytcipdjdbafngkaa
open Go.RowKit

theorem infoErrno : (Try.prog.info? 28).map (fun i => (i.zero, i.size, i.bytes)) = some (some (.int .i64 0), 1, 8) := by kernel_rfl
theorem infoU32 : (Try.prog.info? 33).map (fun i => (i.zero, i.size, i.bytes)) = some (some (.int .u32 0), 1, 4) := by kernel_rfl

/-- Some slices with the state. -/
def LPx (w wr : World) (j : Nat) (tq ago : Int) (fc : Nat → Int) (fh fk : Nat → Nat) : Prop := ∃ cap0 cap1 cap2 A0 A1 A2, LP w wr j cap0 cap1 cap2 A0 A1 A2 tq ago fc fh fk

theorem three_set {w : World} {b : Nat} {a0 a1 a2 : Value} {t : TypeId} {fr : Nat × Nat} (h : w.heap[b]? = some (.cells #[a0, a1, a2] t fr)) (u0 u1 u2 : Value) :
    (((w.setCell ⟨b, 0, none⟩ u0).setCell ⟨b, 1, none⟩ u1).setCell ⟨b, 2, none⟩ u2).heap[b]? = some (.cells #[u0, u1, u2] t fr) := by
  simp [World.setCell, Array.getElem?_modify, h]
theorem LP.next {w wc w5 : World} {j cap0 cap1 cap2 : Nat} {A0 A1 A2 : Option Addr} {tq ago : Int} {fc : Nat → Int} {fh fk : Nat → Nat} (h : LP w wc j cap0 cap1 cap2 A0 A1 A2 tq ago fc fh fk) {X : Nat → Prop} (hk : Kept X wc w5) (hX : ∀ k, X k → w.heap.size + 3 ≤ k)
    {B0 B1 B2 : Option Addr} {b0 b1 b2 : Nat} (o0 : Own w5 (w.heap.size + 3) 28 1 B0 (j + 1) b0 (fun i => .int .i64 (fc i))) (o1 : Own w5 (w.heap.size + 3) 33 1 B1 (j + 1) b1 (fun i => .int .u32 (fh i : Nat))) (o2 : Own w5 (w.heap.size + 3) 33 1 B2 (j + 1) b2 (fun i => .int .u32 (fk i : Nat)))
    (hne : ablock B1 = none ∨ ablock B1 ≠ ablock B2) :
    LP w (((w5.setCell ⟨w.heap.size + 1 + 1, 0, none⟩ (.slice B0 (j + 1) b0)).setCell ⟨w.heap.size + 1 + 1, 1, none⟩ (.slice B1 (j + 1) b1)).setCell ⟨w.heap.size + 1 + 1, 2, none⟩ (.slice B2 (j + 1) b2)) (j + 1) b0 b1 b2 B0 B1 B2 tq ago fc fh fk := by
  have hs := h.sz
  have hz := hk.size
  have far : ∀ k, k ≠ w.heap.size + 1 + 1 → (((w5.setCell ⟨w.heap.size + 1 + 1, 0, none⟩ (.slice B0 (j + 1) b0)).setCell ⟨w.heap.size + 1 + 1, 1, none⟩ (.slice B1 (j + 1) b1)).setCell ⟨w.heap.size + 1 + 1, 2, none⟩ (.slice B2 (j + 1) b2)).heap[k]? = w5.heap[k]? := fun k hk =>
    ((Below.heap_setCell _ _ _ _ hk).trans (Below.heap_setCell _ _ _ _ hk)).trans (Below.heap_setCell _ _ _ _ hk)
  have old : ∀ k, k < w.heap.size + 3 → w5.heap[k]? = wc.heap[k]? := fun k hk2 => hk.block k (by omega) fun hx => by have := hX k hx; omega
  have hb5 : Below w.heap.size w w5 := h.below.trans (hk.below (by omega) fun k hk2 hx => by have := hX k hx; omega)
  refine ⟨((hb5.setCell (by simp; omega) _).setCell (by simp; omega) _).setCell (by simp; omega) _, by simp only [World.setCell, Array.size_modify]; omega, (far _ (by omega)).trans ((old _ (by omega)).trans h.rv), (far _ (by omega)).trans ((old _ (by omega)).trans h.gr),
    three_set ((old _ (by omega)).trans h.ou) _ _ _, o0.same fun k hk => far k ?_, o1.same fun k hk => far k ?_, o2.same fun k hk => far k ?_, hne⟩
  · have := (o0.lt k hk).1; omega
  · have := (o1.lt k hk).1; omega
  · have := (o2.lt k hk).1; omega
/-- What Play gives. -/
structure LE (w w' : World) (m c0 c1 c3 : Nat) (A0 A1 A3 : Option Addr) (fc : Nat → Int) (fh fk : Nat → Nat) : Prop where
  o0 : Own w' w.heap.size 28 1 A0 m c0 (fun i => .int .i64 (fc i))
  o1 : Own w' w.heap.size 33 1 A1 m c1 (fun i => .int .u32 (fh i : Nat))
  o2 : Own w' w.heap.size 33 1 A3 m c3 (fun i => .int .u32 (fk i : Nat))
  bel : Below w.heap.size w w'
theorem LP.back {w wr : World} {j cap0 cap1 cap2 : Nat} {A0 A1 A2 : Option Addr} {tq ago : Int} {fc : Nat → Int} {fh fk : Nat → Nat} (h : LP w wr j cap0 cap1 cap2 A0 A1 A2 tq ago fc fh fk) {u0 u1 u2 : Value} :
    LE w (((wr.setCell ⟨w.heap.size, 0, none⟩ u0).setCell ⟨w.heap.size, 1, none⟩ u1).setCell ⟨w.heap.size, 2, none⟩ u2) j cap0 cap1 cap2 A0 A1 A2 fc fh fk := by
  have far : ∀ k, k ≠ w.heap.size → (((wr.setCell ⟨w.heap.size, 0, none⟩ u0).setCell ⟨w.heap.size, 1, none⟩ u1).setCell ⟨w.heap.size, 2, none⟩ u2).heap[k]? = wr.heap[k]? := fun k hk =>
    ((Below.heap_setCell _ _ _ _ hk).trans (Below.heap_setCell _ _ _ _ hk)).trans (Below.heap_setCell _ _ _ _ hk)
  refine ⟨(h.own0.same fun k hk => far k ?_).base_le (by omega), (h.own1.same fun k hk => far k ?_).base_le (by omega), (h.own2.same fun k hk => far k ?_).base_le (by omega), ((h.below.setCell (Nat.le_refl _) _).setCell (Nat.le_refl _) _).setCell (Nat.le_refl _) _⟩
  · have := (h.own0.lt k hk).1; omega
  · have := (h.own1.lt k hk).1; omega
  · have := (h.own2.lt k hk).1; omega
theorem LP.start (w : World) (fc : Nat → Int) (fh fk : Nat → Nat) :
    LP w (((w.alloc (.cells #[.slice none 0 0, .slice none 0 0, .slice none 0 0] 27)).alloc (.cells #[.int .i64 0, .int .i64 0] 50)).alloc (.cells #[.slice none 0 0, .slice none 0 0, .slice none 0 0] 27)) 0 0 0 0 none none none 0 0 fc fh fk := by
  refine ⟨(((Below.refl _ _).alloc (Nat.le_refl _) _).alloc (by simp) _).alloc (by simp; omega) _, by simp, ?_, ?_, ?_, Own.nil_ _ _ _ _ _, Own.nil_ _ _ _ _ _, Own.nil_ _ _ _ _ _, .inl rfl⟩
  · rw [heap_old _ _ (by simp; omega), heap_old _ _ (by simp), heap_new _ _ rfl]
  · rw [heap_old _ _ (by simp), heap_new _ _ (by simp)]
  · rw [heap_new _ _ (by simp)]
/-- The rows that grow in a round. -/
def lsLease (A0 A1 A3 : Option Addr) (j c0 c1 c3 : Nat) (fc : Nat → Int) (fh fk : Nat → Nat) (x : Int) (y z : Nat) : List LaneR :=
  [⟨4, 1, 3, 24, 28, 8, A0, j, c0, fun i => .int .i64 (fc i), fun u _ => u = .int .i64 x⟩,
   ⟨9, 6, 8, 25, 33, 4, A1, j, c1, fun i => .int .u32 (fh i : Nat), fun u _ => u = .int .u32 (y : Nat)⟩,
   ⟨14, 11, 13, 25, 33, 4, A3, j, c3, fun i => .int .u32 (fk i : Nat), fun u _ => u = .int .u32 (z : Nat)⟩]
/-- What the region's operations yield. -/
def eLease (s b : Nat) (A0 A1 A3 : Option Addr) (j c0 c1 c3 : Nat) (x : Int) (y z : Nat) : Nat → Value → World → Prop
  | 0 => fun v _ => v = .pointer (some ⟨b, 0, none⟩)
  | 1 => fun v _ => v = .slice A0 j c0
  | 2 => fun v _ => v = .int .i64 x
  | 3 => BoxOf s 28 (fun u _ => u = .int .i64 x)
  | 5 => fun v _ => v = .pointer (some ⟨b, 1, none⟩)
  | 6 => fun v _ => v = .slice A1 j c1
  | 7 => fun v _ => v = .int .u32 (y : Nat)
  | 8 => BoxOf s 33 (fun u _ => u = .int .u32 (y : Nat))
  | 10 => fun v _ => v = .pointer (some ⟨b, 2, none⟩)
  | 11 => fun v _ => v = .slice A3 j c3
  | 12 => fun v _ => v = .int .u32 (z : Nat)
  | 13 => BoxOf s 33 (fun u _ => u = .int .u32 (z : Nat))
  | 15 => fun v _ => v = .pointer (some ⟨b, 0, none⟩)
  | _ => fun _ _ => True

set_option linter.unusedSimpArgs false in
set_option maxRecDepth 100000 in
set_option maxHeartbeats 6400000 in
theorem lease_good (r : Nat → Int) (n cap m cap2 B : Nat) (A A2 : Option Addr) (term : Int) (M : Mv) (w : World) (hB : B ≤ w.heap.size) (hr : Rd w B A n (nums r)) (hr2 : Rd w B A2 (m * 4) (mvF M)) (hb : leasedB r n term m = true) :
    Calls Try.prog 8 #[.slice A n cap, .int .i64 term, .slice A2 m cap2] w (Gives fun v w' => ∃ A0 A1 A3 c0 c1 c3, v = .tuple #[.agg #[.slice A0 m c0, .slice A1 m c1, .slice A3 m c3], .int .i64 0] ∧
      LE w w' m c0 c1 c3 A0 A1 A3 (leaseC n r term M) (holdsF n r term M) (keepsF n r term M)) := by
  obtain ⟨⟨⟨h1, h6⟩, hm6⟩, ⟨ht1, ht9⟩, hra⟩ := leasedB_iff.1 hb
  have HQ : Hid (rateBad r n = false) := rateBad_no.2 hra
  have HRA := Lib.hid hra
  clear hra hb
  have HR := Lib.hid hr; clear hr
  have HR2 := Lib.hid hr2; clear hr2
  have HCC := Lib.hid (fun o => contains_any r n cap B A (w.alloc o) (by unfold maxLen; omega) (HR.out.alloc hB o))
  obtain ⟨iE, hiE, hzE0, hzE1, hzE2⟩ := info_parts infoErrno
  obtain ⟨iU, hiU, hzU0, hzU1, hzU2⟩ := info_parts infoU32
  go_enter Try.func8, Try.ntmps8
  go_wp2_with fail
  refine (bool_is (HCC.out _) HQ.out).mono ?_
  rintro e w1 ⟨rfl, rfl⟩
  go_wp2
  go_loopw [43] (fun i wr => ∃ j : Nat, j ≤ m ∧ i = .int .i64 j ∧ Hid (LPx w wr j (leaseE n r term M j).1 (leaseE n r term M j).2 (leaseC n r term M) (holdsF n r term M) (keepsF n r term M))) (fun i _ => m - (intOf i).toNat)
  case atStart => exact ⟨0, by omega, rfl, ⟨_, _, _, _, _, _, LP.start w _ _ _⟩⟩
  case round =>
    obtain ⟨j, hj, rfl, hlp⟩ := hrel
    obtain ⟨cap0, cap1, cap3, A0, A1, A3, hlp⟩ := hlp.out
    have HLP := Lib.hid hlp; clear hlp
    by_cases hlt : j < m
    · obtain ⟨ad, rfl, hbl, c0, c1, c2, c3⟩ := ((HR2.out.more hB).below HLP.out.below).rec4 hlt
      have hbd := leaseE_bd n (by omega) r term M j
      have HST : Hid (leaseE n r term M (j + 1) = (leaseStep n r term (M.k j) (M.t j) (M.v j) (leaseE n r term M j)).2) := rfl
      have HCO : Hid (leaseC n r term M j = (leaseStep n r term (M.k j) (M.t j) (M.v j) (leaseE n r term M j)).1) := rfl
      obtain ⟨⟨tq, ago⟩, he⟩ : ∃ s, leaseE n r term M j = s := ⟨_, rfl⟩
      rw [he] at HLP HST HCO hbd
      obtain ⟨⟨hb1, hb2⟩, hb3, hb4⟩ := hbd
      simp only [] at hb1 hb2 hb3 hb4
      have hbm : 1000 * (j : Int) ≤ 59000 := by omega
      have HLA := Lib.hid (fun o => HLP.out.keep (Below.alloc (Below.refl wr.heap.size wr) (Nat.le_refl _) o))
      go_upto_block 2 with fail
      have mc0 : (wr.alloc (.cells #[.int .i64 (M.k j), .int .i64 (M.f j), .int .i64 (M.t j), .int .i64 (M.v j)] 37)).cell? ⟨wr.heap.size, 0, none⟩ = some (.int .i64 (M.k j)) := World.cell?_alloc_at _ _ _ _ rfl
      have mc2 : (wr.alloc (.cells #[.int .i64 (M.k j), .int .i64 (M.f j), .int .i64 (M.t j), .int .i64 (M.v j)] 37)).cell? ⟨wr.heap.size, 2, none⟩ = some (.int .i64 (M.t j)) := World.cell?_alloc_at _ _ _ _ rfl
      have mc3 : (wr.alloc (.cells #[.int .i64 (M.k j), .int .i64 (M.f j), .int .i64 (M.t j), .int .i64 (M.v j)] 37)).cell? ⟨wr.heap.size, 3, none⟩ = some (.int .i64 (M.v j)) := World.cell?_alloc_at _ _ _ _ rfl
      have hw := HLA.out (.cells #[.int .i64 (M.k j), .int .i64 (M.f j), .int .i64 (M.t j), .int .i64 (M.v j)] 37)
      have hbz := HLP.out.sz
      have hwz : wr.heap.size < (wr.alloc (.cells #[.int .i64 (M.k j), .int .i64 (M.f j), .int .i64 (M.t j), .int .i64 (M.v j)] 37)).heap.size := by simp
      generalize wr.alloc (.cells #[.int .i64 (M.k j), .int .i64 (M.f j), .int .i64 (M.t j), .int .i64 (M.v j)] 37) = W at mc0 mc2 mc3 hw hwz ⊢
      have HW := Lib.hid hw
      clear c0 c1 c2 c3 hw
      go_cut [12] from 44 to 132 (fun c wx => c = .int .i64 (leaseC n r term M j) ∧ Hid (LP w wx j cap0 cap1 cap3 A0 A1 A3 (leaseE n r term M (j + 1)).1 (leaseE n r term M (j + 1)).2 (leaseC n r term M) (holdsF n r term M) (keepsF n r term M)))
      case first =>
        have hg0 := HW.out.g0
        have hg1 := HW.out.g1
        have hgf := HW.out.gf
        by_cases hk : M.k j ≠ 1 ∧ M.k j ≠ 2
        · have hk1 : (M.k j != 1) = true := bne_iff_ne.2 hk.1
          have hk2 : (M.k j != 2) = true := bne_iff_ne.2 hk.2
          rw [leaseStep, if_pos hk] at HST HCO
          clear hk
          go_wp2
          go_meet
          exact ⟨by rw [HCO.out], by show LP _ _ _ _ _ _ _ _ _ _ _ _ _ _; rw [HST.out]; exact HW.out⟩
        · rw [leaseStep, if_neg hk] at HST HCO
          by_cases hk2 : M.k j = 2
          · have e1 : (M.k j != 1) = true := by rw [hk2]; rfl
            have e2 : (M.k j != 2) = false := by rw [hk2]; rfl
            have e3 : (M.k j == 2) = true := by rw [hk2]; rfl
            rw [if_pos hk2] at HST HCO
            by_cases hv : M.v j < 0 ∨ 1000 < M.v j
            · rw [if_pos hv] at HST HCO
              clear hk hk2
              go_wp2
              all_goals first | (go_meet; exact ⟨by rw [HCO.out], by show LP _ _ _ _ _ _ _ _ _ _ _ _ _ _; rw [HST.out]; exact HW.out⟩) | (exfalso; omega)
            · rw [if_neg hv] at HST HCO
              have hv1 : 0 ≤ M.v j := by omega
              have hv2 : M.v j ≤ 1000 := by omega
              clear hk hk2 hv
              go_wp2
              go_meet
              exact ⟨by rw [HCO.out], by show LP _ _ _ _ _ _ _ _ _ _ _ _ _ _; rw [HST.out]; exact HW.out.setG1 _⟩
          · have hk1 : M.k j = 1 := by
              by_cases h : M.k j = 1
              · exact h
              · exact absurd ⟨h, hk2⟩ hk
            have e1 : (M.k j != 1) = false := by rw [hk1]; rfl
            have e3 : (M.k j == 2) = false := by rw [hk1]; rfl
            rw [if_neg hk2] at HST HCO
            clear hk hk2 hk1
            by_cases ht : M.t j < 1 ∨ n ≤ M.t j
            · rw [if_pos ht] at HST HCO
              go_wp2
              all_goals first | (go_meet; exact ⟨by rw [HCO.out], by show LP _ _ _ _ _ _ _ _ _ _ _ _ _ _; rw [HST.out]; exact HW.out⟩) | (exfalso; omega)
            · rw [if_neg ht] at HST HCO
              have hv1 : 1 ≤ M.t j := by omega
              have hv2 : M.t j < n := by omega
              clear ht
              have HK := Lib.hid (kept_any r n cap w.heap.size A term tq ago W (by omega) ((HR.out.more hB).below HW.out.below) (HRA.out 0 (by omega)) ⟨hb3, by omega⟩)
              cases hq : keptB r term tq ago
              · have HQ2 := Lib.hid hq
                rw [if_neg (fun h => by rw [hq] at h; cases h.1)] at HST HCO
                clear hq
                go_wp2_with fail
                refine (bool_is_b HK.out HQ2.out).mono ?_
                rintro e w2 ⟨rfl, hb⟩
                have hx := HW.out.keep hb
                have hz2 := hb.size
                have m2 := (hb.cell (p := ⟨wr.heap.size, 2, none⟩) hwz).trans mc2
                have HX := Lib.hid hx; clear hb hx hg0 hg1 hgf
                have hg0 := HX.out.g0
                have hg1 := HX.out.g1
                have hgf := HX.out.gf
                clear HW mc0 mc2 mc3
                go_wp2
                go_meet
                exact ⟨by rw [HCO.out], by show LP _ _ _ _ _ _ _ _ _ _ _ _ _ _; rw [HST.out]; exact (HX.out.setG0 (M.t j)).setG1 0⟩
              · have HQ2 := Lib.hid hq
                by_cases hne : tq = M.t j
                · have e4 : (tq != M.t j) = false := by rw [hne]; simp
                  rw [if_neg (fun h => h.2 hne)] at HST HCO
                  clear hq hne
                  go_wp2_with fail
                  refine (bool_is_b HK.out HQ2.out).mono ?_
                  rintro e w2 ⟨rfl, hb⟩
                  have hx := HW.out.keep hb
                  have hz2 := hb.size
                  have m2 := (hb.cell (p := ⟨wr.heap.size, 2, none⟩) hwz).trans mc2
                  have HX := Lib.hid hx; clear hb hx hg0 hg1 hgf
                  have hg0 := HX.out.g0
                  have hg1 := HX.out.g1
                  have hgf := HX.out.gf
                  clear HW mc0 mc2 mc3
                  go_wp2
                  go_meet
                  exact ⟨by rw [HCO.out], by show LP _ _ _ _ _ _ _ _ _ _ _ _ _ _; rw [HST.out]; exact (HX.out.setG0 (M.t j)).setG1 0⟩
                · have e4 : (tq != M.t j) = true := bne_iff_ne.2 hne
                  rw [if_pos ⟨hq, hne⟩] at HST HCO
                  clear hq hne
                  go_wp2_with fail
                  refine (bool_is_b HK.out HQ2.out).mono ?_
                  rintro e w2 ⟨rfl, hb⟩
                  have hx := HW.out.keep hb
                  have hz2 := hb.size
                  have m2 := (hb.cell (p := ⟨wr.heap.size, 2, none⟩) hwz).trans mc2
                  have HX := Lib.hid hx; clear hb hx hg0 hg1 hgf
                  have hg0 := HX.out.g0
                  have hg1 := HX.out.g1
                  have hgf := HX.out.gf
                  clear HW mc0 mc2 mc3
                  go_wp2
                  go_meet
                  exact ⟨by rw [HCO.out], by show LP _ _ _ _ _ _ _ _ _ _ _ _ _ _; rw [HST.out]; exact HX.out⟩
      case rest =>
        obtain ⟨rfl, HL2⟩ := hcut
        clear HST HCO HW mc0 mc2 mc3 HLA HLP
        have hbd := leaseE_bd n (by omega) r term M (j + 1)
        obtain ⟨⟨q, ag⟩, he2⟩ : ∃ s, leaseE n r term M (j + 1) = s := ⟨_, rfl⟩
        have HHF : Hid (holdsF n r term M j = if lheldB r term q ag then 2 ^ q.toNat else 0) := by show _ = _; rw [holdsF, he2]
        have HKF : Hid (keepsF n r term M j = if keptB r term q ag then 2 ^ q.toNat else 0) := by show _ = _; rw [keepsF, he2]
        rw [he2] at HL2 hbd
        obtain ⟨⟨hq1, hq2⟩, ha1, ha2⟩ := hbd
        simp only [] at hq1 hq2 ha1 ha2
        obtain ⟨q, rfl⟩ := Int.eq_ofNat_of_zero_le hq1
        have hg0 := HL2.out.g0
        have hg1 := HL2.out.g1
        have HH := Lib.hid (held_any r n cap w.heap.size A term q ag wc (by omega) (by omega) ((HR.out.more hB).below HL2.out.below) (HRA.out q (by omega)) ⟨ha1, by push_cast at ha2; omega⟩ ⟨ht1, ht9⟩)
        obtain ⟨bh, hbh⟩ : ∃ b, lheldB r term q ag = b := ⟨_, rfl⟩
        have HBH := Lib.hid hbh
        rw [hbh] at HHF
        go_upto_if 103 with (go_at_call 18; refine (bool_is_b HH.out HBH.out).mono ?_; rintro e w3 ⟨rfl, hb3'⟩; have HX3 := Lib.hid (HL2.out.keep hb3'); clear hb3')
        go_cut [13] from 44 to 132 (fun h wx => h = .int .u32 (holdsF n r term M j : Nat) ∧ wx = w3)
        case first =>
          have hg0 := HX3.out.g0
          cases bh
          · go_wp2
            go_meet
            exact ⟨by rw [HHF.out]; rfl, rfl⟩
          · go_wp2
            go_meet
            exact ⟨by rw [HHF.out]; simp only [if_true, Int.toNat_natCast]; rw [pow_mod (show q < 32 by omega)], rfl⟩
        case rest =>
          obtain ⟨rfl, rfl⟩ := hcut
          clear HL2 HH HBH HHF hg0 hg1
          have hg0 := HX3.out.g0
          have hg1 := HX3.out.g1
          have HH := Lib.hid (kept_any r n cap w.heap.size A term q ag wc (by omega) ((HR.out.more hB).below HX3.out.below) (HRA.out 0 (by omega)) ⟨ha1, by push_cast at ha2; omega⟩)
          obtain ⟨bh, hbh⟩ : ∃ b, keptB r term q ag = b := ⟨_, rfl⟩
          have HBH := Lib.hid hbh
          rw [hbh] at HKF
          go_upto_if 110 with (go_at_call 17; refine (bool_is_b HH.out HBH.out).mono ?_; rintro e w4 ⟨rfl, hb4'⟩; have HX4 := Lib.hid (HX3.out.keep hb4'); clear hb4')
          go_cut [14] from 44 to 132 (fun h wx => h = .int .u32 (keepsF n r term M j : Nat) ∧ wx = w4)
          case first =>
            have hg0 := HX4.out.g0
            cases bh
            · go_wp2
              go_meet
              exact ⟨by rw [HKF.out]; rfl, rfl⟩
            · go_wp2
              go_meet
              exact ⟨by rw [HKF.out]; simp only [if_true, Int.toNat_natCast]; rw [pow_mod (show q < 32 by omega)], rfl⟩
          case rest =>
            obtain ⟨rfl, rfl⟩ := hcut
            clear HX3 HH HBH HKF hg0 hg1
            go_wp2
            have hS := HX4.out.sz
            have hown : ∀ q ∈ lsLease A0 A1 A3 j cap0 cap1 cap3 (leaseC n r term M) (holdsF n r term M) (keepsF n r term M) (leaseC n r term M j) (holdsF n r term M j) (keepsF n r term M j), Own wc (w.heap.size + 3) q.e 1 q.A q.n q.c q.f := by
              intro r hr
              simp only [lsLease, List.mem_cons, List.not_mem_nil, or_false] at hr
              rcases hr with rfl | rfl | rfl
              · exact HX4.out.own0
              · exact HX4.out.own1
              · exact HX4.out.own2
            have HOWN := Lib.hid hown
            have HSZ := Lib.hid hS
            clear hown
            refine wp_lanes [0, 1, 2, 3, 4, 5, 6, 7, 8, 9, 10, 11, 12, 13, 14, 15] [114, 115, 116, 117, 118, 119, 120, 121, 122, 123, 124, 125, 126, 127, 128, 129] [16, 17, 18, 19, 20] 16
              (lsLease A0 A1 A3 j cap0 cap1 cap3 (leaseC n r term M) (holdsF n r term M) (keepsF n r term M) (leaseC n r term M j) (holdsF n r term M j) (keepsF n r term M j))
              (eLease wc.heap.size (w.heap.size + 1 + 1) A0 A1 A3 j cap0 cap1 cap3 (leaseC n r term M j) (holdsF n r term M j) (keepsF n r term M j)) (w.heap.size + 3) (by kernel_rfl) (by kernel_rfl) rfl (by decide) rfl (by kernel_rfl) hS HOWN.out ?ne ?inj ?ok ?hE ?src ?ext ?fin
            case ne =>
              intro r hr r' hr' hne
              have t1 := HX4.out.own0.ne_ HX4.out.own1 (by decide)
              have t2 := HX4.out.own0.ne_ HX4.out.own2 (by decide)
              have t3 := HX4.out.own1.ne_ HX4.out.own0 (by decide)
              have t4 := HX4.out.own2.ne_ HX4.out.own0 (by decide)
              simp only [lsLease, List.mem_cons, List.not_mem_nil, or_false] at hr hr'
              rcases hr with rfl | rfl | rfl <;> rcases hr' with rfl | rfl | rfl
              · exact absurd rfl hne
              · exact t1
              · exact t2
              · exact t3
              · exact absurd rfl hne
              · exact HX4.out.ne
              · exact t4
              · exact HX4.out.ne'
              · exact absurd rfl hne
            case inj =>
              intro r hr
              simp only [lsLease, List.mem_cons, List.not_mem_nil, or_false] at hr
              rcases hr with rfl | rfl | rfl <;> rfl
            case ok =>
              intro q hq
              simp only [lsLease, List.mem_cons, List.not_mem_nil, or_false] at hq
              rcases hq with rfl | rfl | rfl
              · exact ⟨(show (4 : Nat) ∈ [0, 1, 2, 3, 4, 5, 6, 7, 8, 9, 10, 11, 12, 13, 14, 15] by decide), rfl, by intro o ho; cases ho; rfl, rfl, rfl, Try.underlying24, ⟨iE, _, hiE, hzE0, hzE1, hzE2, rfl⟩, by show j + 1 ≤ maxLen; unfold maxLen; omega, by show (j + 1) * 8 ≤ _; omega, fun v w h => h, fun v w h => h⟩
              · exact ⟨(show (9 : Nat) ∈ [0, 1, 2, 3, 4, 5, 6, 7, 8, 9, 10, 11, 12, 13, 14, 15] by decide), rfl, by intro o ho; cases ho; rfl, rfl, rfl, Try.underlying25, ⟨iU, _, hiU, hzU0, hzU1, hzU2, rfl⟩, by show j + 1 ≤ maxLen; unfold maxLen; omega, by show (j + 1) * 4 ≤ _; omega, fun v w h => h, fun v w h => h⟩
              · exact ⟨(show (14 : Nat) ∈ [0, 1, 2, 3, 4, 5, 6, 7, 8, 9, 10, 11, 12, 13, 14, 15] by decide), rfl, by intro o ho; cases ho; rfl, rfl, rfl, Try.underlying25, ⟨iU, _, hiU, hzU0, hzU1, hzU2, rfl⟩, by show j + 1 ≤ maxLen; unfold maxLen; omega, by show (j + 1) * 4 ≤ _; omega, fun v w h => h, fun v w h => h⟩
            case hE =>
              intro i hi hn v w1 w2 he hs hk
              simp only [List.mem_cons, List.not_mem_nil, or_false] at hi
              rcases hi with rfl | rfl | rfl | rfl | rfl | rfl | rfl | rfl | rfl | rfl | rfl | rfl | rfl | rfl | rfl | rfl
              all_goals first | exact he | (cases hn; done) | skip
              · exact BoxOf.kept (s := wc.heap.size) (e := 28) (src := fun u _ => u = .int .i64 (leaseC n r term M j)) he hk (fun k hx => LX.lt HOWN.out hx) (fun _ h => h)
              · exact BoxOf.kept (s := wc.heap.size) (e := 33) (src := fun u _ => u = .int .u32 (holdsF n r term M j : Nat)) he hk (fun k hx => LX.lt HOWN.out hx) (fun _ h => h)
              · exact BoxOf.kept (s := wc.heap.size) (e := 33) (src := fun u _ => u = .int .u32 (keepsF n r term M j : Nat)) he hk (fun k hx => LX.lt HOWN.out hx) (fun _ h => h)
            case src =>
              intro r hr v w1 w2 he hs hk
              simp only [lsLease, List.mem_cons, List.not_mem_nil, or_false] at hr
              rcases hr with rfl | rfl | rfl <;> exact he
            case ext =>
              intro i hi hn o ho a w1 hs hk hold hf
              have hnx : ¬ LX (lsLease A0 A1 A3 j cap0 cap1 cap3 (leaseC n r term M) (holdsF n r term M) (keepsF n r term M) (leaseC n r term M j) (holdsF n r term M j) (keepsF n r term M j)) (w.heap.size + 1 + 1) := by
                rintro ⟨q, hq, he⟩
                have := ((HOWN.out q hq).lt _ he).1
                omega
              have hbz : w.heap.size + 1 + 1 < wc.heap.size := by omega
              have c0 := (hk.cell (p := ⟨w.heap.size + 1 + 1, 0, none⟩) hbz hnx).trans HX4.out.o0
              have c1 := (hk.cell (p := ⟨w.heap.size + 1 + 1, 1, none⟩) hbz hnx).trans HX4.out.o1
              have c2 := (hk.cell (p := ⟨w.heap.size + 1 + 1, 2, none⟩) hbz hnx).trans HX4.out.o2
              simp only [List.mem_cons, List.not_mem_nil, or_false] at hi
              rcases hi with rfl | rfl | rfl | rfl | rfl | rfl | rfl | rfl | rfl | rfl | rfl | rfl | rfl | rfl | rfl | rfl
              all_goals cases ho
              · have h1 : a.tmps[9]?.getD undef = .pointer (some ⟨w.heap.size + 1 + 1, 0, none⟩) := hold 9 (by decide)
                exact does_run (v := .pointer (some ⟨w.heap.size + 1 + 1, 0, none⟩)) (w' := w1) (by go_simp) ⟨Below.refl _ _, rfl⟩
              · have h1 : a.tmps[114]?.getD undef = .pointer (some ⟨w.heap.size + 1 + 1, 0, none⟩) := hf 0 114 rfl rfl rfl
                exact does_run (v := .slice A0 j cap0) (w' := w1) (by go_simp) ⟨Below.refl _ _, rfl⟩
              · have h1 : a.tmps[12]?.getD undef = .int .i64 (leaseC n r term M j) := hold 12 (by decide)
                exact does_run (v := .int .i64 (leaseC n r term M j)) (w' := w1) (by go_simp) ⟨Below.refl _ _, rfl⟩
              · have h1 : a.tmps[116]?.getD undef = .int .i64 (leaseC n r term M j) := hf 2 116 rfl rfl rfl
                exact does_run (v := .slice (some ⟨w1.heap.size, 0, none⟩) 1 1) (w' := w1.alloc (.cells #[.int .i64 (leaseC n r term M j)] 28)) (by go_simp) ⟨(Below.refl _ _).alloc (Nat.le_refl _) _, BoxOf.made (e := 28) (src := fun u _ => u = .int .i64 (leaseC n r term M j)) hs rfl rfl⟩
              · cases hn
              · have h1 : a.tmps[9]?.getD undef = .pointer (some ⟨w.heap.size + 1 + 1, 0, none⟩) := hold 9 (by decide)
                exact does_run (v := .pointer (some ⟨w.heap.size + 1 + 1, 1, none⟩)) (w' := w1) (by go_simp) ⟨Below.refl _ _, rfl⟩
              · have h1 : a.tmps[119]?.getD undef = .pointer (some ⟨w.heap.size + 1 + 1, 1, none⟩) := hf 5 119 rfl rfl rfl
                exact does_run (v := .slice A1 j cap1) (w' := w1) (by go_simp) ⟨Below.refl _ _, rfl⟩
              · have h1 : a.tmps[13]?.getD undef = .int .u32 (holdsF n r term M j : Nat) := hold 13 (by decide)
                exact does_run (v := .int .u32 (holdsF n r term M j : Nat)) (w' := w1) (by go_simp) ⟨Below.refl _ _, rfl⟩
              · have h1 : a.tmps[121]?.getD undef = .int .u32 (holdsF n r term M j : Nat) := hf 7 121 rfl rfl rfl
                exact does_run (v := .slice (some ⟨w1.heap.size, 0, none⟩) 1 1) (w' := w1.alloc (.cells #[.int .u32 (holdsF n r term M j : Nat)] 33)) (by go_simp) ⟨(Below.refl _ _).alloc (Nat.le_refl _) _, BoxOf.made (e := 33) (src := fun u _ => u = .int .u32 (holdsF n r term M j : Nat)) hs rfl rfl⟩
              · cases hn
              · have h1 : a.tmps[9]?.getD undef = .pointer (some ⟨w.heap.size + 1 + 1, 0, none⟩) := hold 9 (by decide)
                exact does_run (v := .pointer (some ⟨w.heap.size + 1 + 1, 2, none⟩)) (w' := w1) (by go_simp) ⟨Below.refl _ _, rfl⟩
              · have h1 : a.tmps[124]?.getD undef = .pointer (some ⟨w.heap.size + 1 + 1, 2, none⟩) := hf 10 124 rfl rfl rfl
                exact does_run (v := .slice A3 j cap3) (w' := w1) (by go_simp) ⟨Below.refl _ _, rfl⟩
              · have h1 : a.tmps[14]?.getD undef = .int .u32 (keepsF n r term M j : Nat) := hold 14 (by decide)
                exact does_run (v := .int .u32 (keepsF n r term M j : Nat)) (w' := w1) (by go_simp) ⟨Below.refl _ _, rfl⟩
              · have h1 : a.tmps[126]?.getD undef = .int .u32 (keepsF n r term M j : Nat) := hf 12 126 rfl rfl rfl
                exact does_run (v := .slice (some ⟨w1.heap.size, 0, none⟩) 1 1) (w' := w1.alloc (.cells #[.int .u32 (keepsF n r term M j : Nat)] 33)) (by go_simp) ⟨(Below.refl _ _).alloc (Nat.le_refl _) _, BoxOf.made (e := 33) (src := fun u _ => u = .int .u32 (keepsF n r term M j : Nat)) hs rfl rfl⟩
              · cases hn
              · have h1 : a.tmps[9]?.getD undef = .pointer (some ⟨w.heap.size + 1 + 1, 0, none⟩) := hold 9 (by decide)
                exact does_run (v := .pointer (some ⟨w.heap.size + 1 + 1, 0, none⟩)) (w' := w1) (by go_simp) ⟨Below.refl _ _, rfl⟩
            case fin =>
              intro y w5 hy hk5 hdis
              obtain ⟨kv0, B0, b0, y4, s0, own0, d0⟩ := (show NewRow wc.heap.size (w.heap.size + 3) ⟨4, 1, 3, 24, 28, 8, A0, j, cap0, fun i => .int .i64 (leaseC n r term M i), fun u _ => u = .int .i64 (leaseC n r term M j)⟩ (y 4) w5 from hy 4 (by decide))
              obtain ⟨kv1, B1, b1, y9, s1, own1, d1⟩ := (show NewRow wc.heap.size (w.heap.size + 3) ⟨9, 6, 8, 25, 33, 4, A1, j, cap1, fun i => .int .u32 (holdsF n r term M i : Nat), fun u _ => u = .int .u32 (holdsF n r term M j : Nat)⟩ (y 9) w5 from hy 9 (by decide))
              obtain ⟨kv2, B2, b2, y14, s2, own2, d2⟩ := (show NewRow wc.heap.size (w.heap.size + 3) ⟨14, 11, 13, 25, 33, 4, A3, j, cap3, fun i => .int .u32 (keepsF n r term M i : Nat), fun u _ => u = .int .u32 (keepsF n r term M j : Nat)⟩ (y 14) w5 from hy 14 (by decide))
              have y0 : y 0 = .pointer (some ⟨w.heap.size + 1 + 1, 0, none⟩) := hy 0 (by decide)
              have y15 : y 15 = .pointer (some ⟨w.heap.size + 1 + 1, 0, none⟩) := hy 15 (by decide)
              simp only [List.drop_succ_cons, List.drop_zero, List.zip_cons_cons, List.zip_nil_right, List.foldl_cons, List.foldl_nil, y4, y9, y14, y15]
              simp only [Act.put, List.setIfInBounds_toArray, List.set_cons_zero, List.set_cons_succ]
              have hnx : ¬ LX (lsLease A0 A1 A3 j cap0 cap1 cap3 (leaseC n r term M) (holdsF n r term M) (keepsF n r term M) (leaseC n r term M j) (holdsF n r term M j) (keepsF n r term M j)) (w.heap.size + 1 + 1) := by
                rintro ⟨q, hq, he⟩
                have := ((HOWN.out q hq).lt _ he).1
                omega
              have hou := (hk5.block (w.heap.size + 1 + 1) (by omega) hnx).trans HX4.out.ou
              have v0 : w5.cell? ⟨w.heap.size + 1 + 1, 0, none⟩ = some (.slice A0 j cap0) := by rw [cell_of_row _ _ _ _ _ _ hou]; rfl
              have v1 : w5.cell? ⟨w.heap.size + 1 + 1, 1, none⟩ = some (.slice A1 j cap1) := by rw [cell_of_row _ _ _ _ _ _ hou]; rfl
              have v2 : w5.cell? ⟨w.heap.size + 1 + 1, 2, none⟩ = some (.slice A3 j cap3) := by rw [cell_of_row _ _ _ _ _ _ hou]; rfl
              have hfr : ∀ o, w5.frozen? ⟨w.heap.size + 1 + 1, o, none⟩ = false := fun o => by have := hou; simp [World.frozen?, this]
              have f0 := hfr 0
              have f1 := hfr 1
              have f2 := hfr 2
              have HN : Hid (LP w (((w5.setCell ⟨w.heap.size + 1 + 1, 0, none⟩ (.slice B0 (j + 1) b0)).setCell ⟨w.heap.size + 1 + 1, 1, none⟩ (.slice B1 (j + 1) b1)).setCell ⟨w.heap.size + 1 + 1, 2, none⟩ (.slice B2 (j + 1) b2)) (j + 1) b0 b1 b2 B0 B1 B2 q ag (leaseC n r term M) (holdsF n r term M) (keepsF n r term M)) :=
                HX4.out.next hk5 (fun k ⟨q, hq, he⟩ => ((HOWN.out q hq).lt _ he).1) (own0.congr1 fun i (hi : i < j + 1) => (by
                  show (if i < j then Value.int .i64 (leaseC n r term M i) else kv0) = _
                  by_cases e : i < j
                  · rw [if_pos e]
                  · rw [if_neg e, show i = j by omega]; exact s0)) (own1.congr1 fun i (hi : i < j + 1) => (by
                  show (if i < j then Value.int .u32 (holdsF n r term M i : Nat) else kv1) = _
                  by_cases e : i < j
                  · rw [if_pos e]
                  · rw [if_neg e, show i = j by omega]; exact s1)) (own2.congr1 fun i (hi : i < j + 1) => (by
                  show (if i < j then Value.int .u32 (keepsF n r term M i : Nat) else kv2) = _
                  by_cases e : i < j
                  · rw [if_pos e]
                  · rw [if_neg e, show i = j by omega]; exact s2))
                  (hdis _ (List.mem_cons_of_mem _ (List.mem_cons_self ..)) _ (List.mem_cons_of_mem _ (List.mem_cons_of_mem _ (List.mem_cons_self ..))) (show (9 : Nat) ≠ 14 by decide) rfl rfl _ _ _ _ _ _ y9 y14)
              clear hou hfr hnx own0 own1 own2 d0 d1 d2 hdis s0 s1 s2 y0 y15 y4 y9 y14 hk5 hy
              go_wp2
              go_roundw
              case rel => exact ⟨j + 1, by omega, by go_num, by show LPx _ _ _ _ _ _ _ _; rw [he2]; exact ⟨_, _, _, _, _, _, HN.out⟩⟩
              case measure => simp [intOf]; omega
    · obtain rfl : j = m := by omega
      have v0 := HLP.out.o0
      have v1 := HLP.out.o1
      have v2 := HLP.out.o2
      have hrv := HLP.out.rv
      have r0 : wr.cell? ⟨w.heap.size, 0, none⟩ = some (.slice none 0 0) := by rw [cell_of_row _ _ _ _ _ _ hrv]; rfl
      have r1 : wr.cell? ⟨w.heap.size, 1, none⟩ = some (.slice none 0 0) := by rw [cell_of_row _ _ _ _ _ _ hrv]; rfl
      have r2 : wr.cell? ⟨w.heap.size, 2, none⟩ = some (.slice none 0 0) := by rw [cell_of_row _ _ _ _ _ _ hrv]; rfl
      have hfr : ∀ o, wr.frozen? ⟨w.heap.size, o, none⟩ = false := fun o => by have := hrv; simp [World.frozen?, this]
      have f0 := hfr 0
      have f1 := hfr 1
      have f2 := hfr 2
      have HRV := Lib.hid hrv
      clear hfr hrv
      go_wp2
      have hfin := three_set HRV.out (.slice A0 j cap0) (.slice A1 j cap1) (.slice A3 j cap3)
      have hback : LE w _ j cap0 cap1 cap3 A0 A1 A3 (leaseC n r term M) (holdsF n r term M) (keepsF n r term M) := HLP.out.back (u0 := .slice A0 j cap0) (u1 := .slice A1 j cap1) (u2 := .slice A3 j cap3)
      clear v0 v1 v2 r0 r1 r2 f0 f1 f2
      generalize ((wr.setCell ⟨w.heap.size, 0, none⟩ (.slice A0 j cap0)).setCell ⟨w.heap.size, 1, none⟩ (.slice A1 j cap1)).setCell ⟨w.heap.size, 2, none⟩ (.slice A3 j cap3) = W9 at hfin hback ⊢
      have r0 : W9.cell? ⟨w.heap.size, 0, none⟩ = some (.slice A0 j cap0) := by rw [cell_of_row _ _ _ _ _ _ hfin]; rfl
      have r1 : W9.cell? ⟨w.heap.size, 1, none⟩ = some (.slice A1 j cap1) := by rw [cell_of_row _ _ _ _ _ _ hfin]; rfl
      have r2 : W9.cell? ⟨w.heap.size, 2, none⟩ = some (.slice A3 j cap3) := by rw [cell_of_row _ _ _ _ _ _ hfin]; rfl
      exact bodyPost_ret (v := .tuple #[.agg #[.slice A0 j cap0, .slice A1 j cap1, .slice A3 j cap3], .int .i64 0]) (by simp [results, Try.results8, go_sem, r0, r1, r2]) rfl ⟨_, rfl, A0, A1, A3, cap0, cap1, cap3, rfl, hback⟩
end Go.Proofs.Ytcipdjdbafngkaa
