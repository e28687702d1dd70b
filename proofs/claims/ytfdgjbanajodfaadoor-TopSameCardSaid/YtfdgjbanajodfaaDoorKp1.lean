/- The blocks of a keep; the walk of apply. -/
import Derived.Test.YtfdgjbanajodfaaDoorKpMath
import Derived.Test.YtfdgjbanajodfaaDoorPermL
set_option linter.unusedVariables false
set_option linter.unusedSimpArgs false
namespace Go.Proofs.YtfdgjbanajodfaaDoor
open Go.RowKit

abbrev svF (tb ap : Nat → Nat) (j : Nat) : Value := if j % 2 = 0 then .pointer (some ⟨tb (j / 2), 0, none⟩) else .int .i64 (ap (j / 2) : Nat)
def plF (SA : Option Addr) (n cs : Nat) (A : Option Addr) (q cap : Nat) (at_ seen : Nat → Nat) : Nat → Value
  | 0 => .slice SA n cs
  | 1 => .slice A q cap
  | j + 2 => if j < 6 then .int .i64 (at_ j : Nat) else .int .i64 (seen (j - 6) : Nat)
abbrev rowP (g : Nat) (SA : Option Addr) (n cs : Nat) (A : Option Addr) (q cap : Nat) (at_ seen : Nat → Nat) : LRow := blk g 77 14 (plF SA n cs A q cap at_ seen)
abbrev rowV (SA : Option Addr) (n cs : Nat) (tb ap : Nat → Nat) : LRow := ⟨SA, 79, 2, n, cs, svF tb ap⟩
abbrev famT (n : Nat) (tb bm : Nat → Nat) : List LRow := (List.range n).map fun s => rowT (tb s) (bm s)
abbrev rowsK (g : Nat) (SA : Option Addr) (n cs : Nat) (tb bm : Nat → Nat) (A : Option Addr) (cap : Nat) (σ : KS) (R : List LRow) : List LRow :=
  rowP g SA n cs A σ.q cap σ.at_ σ.seen :: rowV SA n cs tb σ.ap :: dds A σ.q cap σ.ord :: (famT n tb bm ++ R)
abbrev restK (g : Nat) (SA : Option Addr) (n cs : Nat) (tb bm : Nat → Nat) (A : Option Addr) (cap : Nat) (σ : KS) (R : List LRow) (s : Nat) : List LRow :=
  rowP g SA n cs A σ.q cap σ.at_ σ.seen :: rowV SA n cs tb σ.ap :: dds A σ.q cap σ.ord :: (((List.range n).erase s).map (fun s => rowT (tb s) (bm s)) ++ R)
def mapsS (n : Nat) (bm : Nat → Nat) (S : Nat → TS) : List MRow := (List.range n).map fun s => ⟨bm s, TrE (S s)⟩
def restS (n : Nat) (bm : Nat → Nat) (S : Nat → TS) (s : Nat) : List MRow := ((List.range n).erase s).map fun s => ⟨bm s, TrE (S s)⟩
theorem pull_perm {α : Type} (X F : List α) (f : α) (F' R : List α) (h : F.Perm (f :: F')) : (X ++ (F ++ R)).Perm (f :: (X ++ (F' ++ R))) :=
  ((h.append_right R).append_left X).trans List.perm_middle
section
variable {w0 w : World} {g : Nat} {SA : Option Addr} {n cs : Nat} {tb bm : Nat → Nat} {A : Option Addr} {cap : Nat} {σ : KS} {R : List LRow} {S : Nat → TS} {s : Nat}
theorem kp_pull (X : List LRow) (h : LayM w0 w (X ++ rowsK g SA n cs tb bm A cap σ R) (mapsS n bm S)) (hs : s < n) : LayM w0 w (rowT (tb s) (bm s) :: (X ++ restK g SA n cs tb bm A cap σ R s)) (⟨bm s, TrE (S s)⟩ :: restS n bm S s) := by
  have h1 := h.permQ (fam_perm (fun s => (⟨bm s, TrE (S s)⟩ : MRow)) hs)
  have h2 := pull_perm (X ++ [rowP g SA n cs A σ.q cap σ.at_ σ.seen, rowV SA n cs tb σ.ap, dds A σ.q cap σ.ord]) _ _ _ R (fam_perm (fun s => rowT (tb s) (bm s)) hs)
  simp only [List.append_assoc, List.cons_append, List.nil_append] at h2
  exact h1.permL h2
theorem kp_put (Y X : List LRow) {st : TS} (h : LayM w0 w (Y ++ rowT (tb s) (bm s) :: (X ++ restK g SA n cs tb bm A cap σ R s)) (⟨bm s, TrE st⟩ :: restS n bm S s)) (hs : s < n) : LayM w0 w (Y ++ (X ++ rowsK g SA n cs tb bm A cap σ R)) (mapsS n bm (kset S s st)) := by
  have e : restS n bm S s = ((List.range n).erase s).map fun s' => (⟨bm s', TrE (kset S s st s')⟩ : MRow) :=
    (fam_rest fun i hi => by rw [kset_ne _ _ hi]).symm
  have e2 : (⟨bm s, TrE st⟩ : MRow) = ⟨bm s, TrE (kset S s st s)⟩ := by rw [kset_at]
  rw [e, e2] at h
  have h1 := h.permQ (fam_perm (fun s' => (⟨bm s', TrE (kset S s st s')⟩ : MRow)) hs).symm
  have h2 := pull_perm (X ++ [rowP g SA n cs A σ.q cap σ.at_ σ.seen, rowV SA n cs tb σ.ap, dds A σ.q cap σ.ord]) _ _ _ R (fam_perm (fun s => rowT (tb s) (bm s)) hs)
  simp only [List.append_assoc, List.cons_append, List.nil_append] at h2
  exact h1.permL (h2.symm.append_left Y)
theorem svF_0 (tb ap : Nat → Nat) (s : Nat) : svF tb ap (s * 2) = .pointer (some ⟨tb s, 0, none⟩) := by
  unfold svF
  rw [if_pos (by omega), show s * 2 / 2 = s by omega]
theorem svF_1 (tb ap : Nat → Nat) (s : Nat) : svF tb ap (s * 2 + 1) = .int .i64 (ap s : Nat) := by
  unfold svF
  rw [if_neg (by omega), show (s * 2 + 1) / 2 = s by omega]
theorem svF_set (tb ap : Nat → Nat) (s v : Nat) : svF tb (kset ap s v) (s * 2 + 1) = .int .i64 (v : Nat) ∧ ∀ i, i ≠ s * 2 + 1 → svF tb (kset ap s v) i = svF tb ap i := by
  refine ⟨by rw [svF_1, kset_at], fun i hi => ?_⟩
  unfold svF
  by_cases h : i % 2 = 0
  · rw [if_pos h, if_pos h]
  · rw [if_neg h, if_neg h, kset_ne _ _ (by omega)]
end
theorem lastA_self (D : Nat → Deed) (a : Nat) : lastA D a a = A0 0 := if_neg (Nat.lt_irrefl a)
theorem lastA_next (D : Nat → Deed) {a k : Nat} (h : a ≤ k) : lastA D a (k + 1) = ansS T0 D k := by
  unfold lastA
  rw [if_pos (by omega), Nat.add_sub_cancel]
theorem tree_next (σ : KS) (s k : Nat) : kset (treeAt (apK σ s k)) s (doS (runS T0 σ.ord k) (σ.ord k)).2 = treeAt (apK σ s (k + 1)) := by
  funext i
  unfold kset
  split
  · rename_i h
    subst h
    show _ = runS T0 σ.ord (kset σ.ap i (k + 1) i)
    rw [kset_at]; rfl
  · rename_i h
    show runS T0 σ.ord (kset σ.ap s k i) = runS T0 σ.ord (kset σ.ap s (k + 1) i)
    rw [kset_ne _ _ h, kset_ne _ _ h]
theorem apK_self (σ : KS) (s : Nat) : apK σ s (σ.ap s) = σ := by
  obtain ⟨ap, ord, q, at_, seen⟩ := σ
  unfold apK
  congr 1
  funext i
  show kset ap s (ap s) i = ap i
  unfold kset
  split
  · rename_i h; rw [h]
  · rfl
theorem apK_apK (σ : KS) (s a b : Nat) : apK (apK σ s a) s b = apK σ s b := by
  unfold apK
  congr 1
  funext i
  show kset (kset σ.ap s a) s b i = kset σ.ap s b i
  unfold kset
  split <;> rfl
theorem ddF_at (D : Nat → Deed) (k : Nat) : ddF D (k * 4) = .int .i64 (D k).kind ∧ ddF D (k * 4 + 1) = .string (bs (D k).path) ∧ ddF D (k * 4 + 2) = .string (bs (D k).data) ∧ ddF D (k * 4 + 3) = .int .i64 (D k).version := by
  refine ⟨?_, ?_, ?_, ?_⟩ <;> unfold ddF
  · rw [show k * 4 / 4 = k by omega, show k * 4 % 4 = 0 by omega]; rfl
  · rw [show (k * 4 + 1) / 4 = k by omega, show (k * 4 + 1) % 4 = 1 by omega]; rfl
  · rw [show (k * 4 + 2) / 4 = k by omega, show (k * 4 + 2) % 4 = 2 by omega]; rfl
  · rw [show (k * 4 + 3) / 4 = k by omega, show (k * 4 + 3) % 4 = 3 by omega]; rfl
/-- How far a server is, read in the world. -/
def leftK (m : Nat) (p : Addr) (w : World) : Nat := match w.cell? p with | some (.int _ x) => m - x.toNat | _ => 0
theorem leftK_is {m : Nat} {p : Addr} {w : World} {k : Nat} (h : w.cell? p = some (.int .i64 (k : Nat))) : leftK m p w = m - k := by
  unfold leftK; rw [h]; simp
set_option maxRecDepth 100000 in
set_option maxHeartbeats 3200000 in
theorem apply_any (g gs n cs : Nat) (tb bm : Nat → Nat) (A : Option Addr) (cap : Nat) (σ : KS) (R : List LRow) (w0 w : World) (s m : Nat) (hs : s < n) (hn : n ≤ 6) (h1 : σ.ap s ≤ m) (h2 : m ≤ σ.q) (hq : σ.q ≤ 60) (hD : ∀ i, i < σ.q → DeedL (σ.ord i))
    (h : LayM w0 w (rowsK g (some ⟨gs, 0, none⟩) n cs tb bm A cap σ R) (mapsS n bm (treeAt σ))) :
    Calls Tryd.prog 30 #[.pointer (some ⟨g, 0, none⟩), .int .i64 s, .int .i64 m] w (Gives fun v w' => ∃ AN cN, v = toldV AN cN (lastA σ.ord (σ.ap s) m) ∧
      LayM w0 w' (rowS AN cN (lastA σ.ord (σ.ap s) m).names :: rowsK g (some ⟨gs, 0, none⟩) n cs tb bm A cap (apK σ s m) R) (mapsS n bm (treeAt (apK σ s m)))) := by
  have HD := Lib.hid hD
  have HM := Lib.hid (((h.lnil 9 1 (strF [])).newB told0 35 4 rfl _ rfl).newB told0 35 4 rfl (w.heap.size + 1) (by simp))
  clear h hD
  go_enter Tryd.func30, Tryd.ntmps30
  go_wp2
  refine at_layM (F := fun W' => Code.wp _ _ _ _ W') HM.out ?_
  intro W hW
  have HW : Hid (LayM w0 W (blk (w.heap.size + 1) 35 4 (ofL (toldL none 0 (lastA σ.ord (σ.ap s) (σ.ap s)))) :: blk w.heap.size 35 4 (ofL told0) :: rowS none 0 (lastA σ.ord (σ.ap s) (σ.ap s)).names :: rowsK g (some ⟨gs, 0, none⟩) n cs tb bm A cap (apK σ s (σ.ap s)) R) (mapsS n bm (treeAt (apK σ s (σ.ap s))))) := Lib.hid (by rw [lastA_self, apK_self]; exact hW)
  clear hW HM
  generalize w.heap.size + 1 = t7 at HW ⊢
  generalize w.heap.size = t6 at HW ⊢
  go_loopw [] (fun wr => ∃ (k : Nat) (AN : Option Addr) (cN : Nat), σ.ap s ≤ k ∧ k ≤ m ∧ Hid (LayM w0 wr (blk t7 35 4 (ofL (toldL AN cN (lastA σ.ord (σ.ap s) k))) :: blk t6 35 4 (ofL told0) :: rowS AN cN (lastA σ.ord (σ.ap s) k).names :: rowsK g (some ⟨gs, 0, none⟩) n cs tb bm A cap (apK σ s k) R) (mapsS n bm (treeAt (apK σ s k))))) (fun wr => leftK m ⟨gs, s * 2 + 1, none⟩ wr)
  case atStart => exact ⟨σ.ap s, none, 0, by omega, by omega, HW⟩
  case round =>
    clear HW
    obtain ⟨k, AN, cN, hk1, hk2, HQ⟩ := hrel
    have p0 : wr.cell? ⟨g, 0, none⟩ = some (.slice (some ⟨gs, 0, none⟩) n cs) := HQ.out.lay.cellB 3 rfl 0 (by omega)
    have p1 : wr.cell? ⟨g, 1, none⟩ = some (.slice A σ.q cap) := HQ.out.lay.cellB 3 rfl 1 (by omega)
    have s0 : wr.cell? ⟨gs, s * 2, none⟩ = some (.pointer (some ⟨tb s, 0, none⟩)) := (HQ.out.lay.cell 4 rfl (j := s * 2) (by omega)).trans (congrArg some (svF_0 _ _ _))
    have s1 : wr.cell? ⟨gs, s * 2 + 1, none⟩ = some (.int .i64 (k : Nat)) := (HQ.out.lay.cell 4 rfl (j := s * 2 + 1) (by omega)).trans (congrArg some ((svF_1 _ _ _).trans (by show Value.int .i64 ((kset σ.ap s k s : Nat) : Int) = _; rw [kset_at])))
    have HL := Lib.hid (leftK_is (m := m) s1)
    by_cases hlt : k < m
    · obtain ⟨go, eA, -, -, hc, -⟩ := (HQ.out.lay.own 5 _ rfl).pos (show 0 < σ.q by omega)
      have eA : A = some ⟨go, 0, none⟩ := eA
      subst eA
      obtain ⟨d0, d1, d2, d3⟩ := ddF_at σ.ord k
      have m0 := (hc (k * 4) (by show k * 4 < σ.q * 4; omega)).trans (congrArg some d0)
      have m1 := (hc (k * 4 + 1) (by show _ < σ.q * 4; omega)).trans (congrArg some d1)
      have m2 := (hc (k * 4 + 2) (by show _ < σ.q * 4; omega)).trans (congrArg some d2)
      have m3 := (hc (k * 4 + 3) (by show _ < σ.q * 4; omega)).trans (congrArg some d3)
      clear hc d0 d1 d2 d3
      have e : treeAt (apK σ s k) s = runS T0 σ.ord k := by
        show runS T0 σ.ord (kset σ.ap s k s) = _
        rw [kset_at]
      have hp := kp_pull [blk t7 35 4 (ofL (toldL AN cN (lastA σ.ord (σ.ap s) k))), blk t6 35 4 (ofL told0), rowS AN cN (lastA σ.ord (σ.ap s) k).names] HQ.out.drew hs
      rw [e] at hp
      have HP := Lib.hid hp
      clear hp e
      go_wp2
      refine wp_text 22 (by kernel_rfl) (by kernel_rfl) (by kernel_rfl) (by repeat' (first | (with_reducible apply tame_then) | (with_reducible apply tame_block) | (with_reducible apply tame_scope) | exact tame_gives | exact tame_body (fun _ _ h => ⟨_, h.1⟩))) ?_
      simp only [List.take_succ_cons, List.take_zero, List.drop_succ_cons, List.drop_zero]
      go_wp2
      refine headed ?_
      go_wp2_with fail
      refine (do_any (tb s) (bm s) _ _ w0 _ (runS T0 σ.ord k) (σ.ord k) (HD.out k (by omega)) ((run_ok σ.ord k fun i hi => HD.out i (by omega)).ok (by omega)) HP.out).mono ?_
      rintro e w3 ⟨v, rfl, A2, c2, rfl, h3⟩
      have h4 := kp_put [rowS A2 c2 (doS (runS T0 σ.ord k) (σ.ord k)).1.names] [blk t7 35 4 (ofL (toldL AN cN (lastA σ.ord (σ.ap s) k))), blk t6 35 4 (ofL told0), rowS AN cN (lastA σ.ord (σ.ap s) k).names] h3 hs
      rw [tree_next] at h4
      have h5 := (h4.del 3).permL ((List.Perm.swap _ _ _).trans (List.Perm.cons _ (List.Perm.swap _ _ _)))
      have ea : (doS (runS T0 σ.ord k) (σ.ord k)).1 = ansS T0 σ.ord k := rfl
      rw [ea] at h5 ⊢
      have HLA := Lib.hid (lastA_next σ.ord hk1)
      have HA := Lib.hid (ansS_len (D := σ.ord) (j := k) fun i hi => HD.out i (by omega))
      generalize ansS T0 σ.ord k = a at h5 HLA HA ⊢
      have H5 := Lib.hid h5
      clear h3 h4 h5 ea HP HQ p0 p1 s0 s1 m0 m1 m2 m3
      have r0 := H5.out.lay.cellB 0 rfl 0 (by omega)
      have r1 := H5.out.lay.cellB 0 rfl 1 (by omega)
      have r2 := H5.out.lay.cellB 0 rfl 2 (by omega)
      have r3 := H5.out.lay.cellB 0 rfl 3 (by omega)
      have y0 := H5.out.lay.frz 0 rfl (by omega) 0
      have y1 := H5.out.lay.frz 0 rfl (by omega) 1
      have y2 := H5.out.lay.frz 0 rfl (by omega) 2
      have y3 := H5.out.lay.frz 0 rfl (by omega) 3
      have p0 : w3.cell? ⟨g, 0, none⟩ = some (.slice (some ⟨gs, 0, none⟩) n cs) := H5.out.lay.cellB 3 rfl 0 (by omega)
      have s1 : w3.cell? ⟨gs, s * 2 + 1, none⟩ = some (.int .i64 (k : Nat)) := (H5.out.lay.cell 4 rfl (j := s * 2 + 1) (by omega)).trans (congrArg some ((svF_1 _ _ _).trans (by show Value.int .i64 ((kset σ.ap s k s : Nat) : Int) = _; rw [kset_at])))
      have z1 : w3.frozen? ⟨gs, s * 2 + 1, none⟩ = false := H5.out.lay.frz 4 rfl (by omega) _
      have n1 : t7 ≠ g := H5.out.lay.ne_ 0 3 rfl rfl (by omega)
      have n2 : t7 ≠ gs := H5.out.lay.ne_ 0 4 rfl rfl (by omega)
      unfold toldV
      go_wp2
      have HF := Lib.hid (((((H5.out.fld 0 0 (.int .i64 a.code) rfl (by omega) (by simp [toldL])).fld 0 1 (.string (bs a.data)) rfl (by omega) (by simp [toldL])).fld 0 2 (.int .i64 a.ver) rfl (by omega) (by simp [toldL])).fld 0 3 (.slice A2 a.names.length c2) rfl (by omega) (by simp [toldL])).set 4 (svF tb (kset σ.ap s (k + 1))) (j := s * 2 + 1) (u := .int .i64 ((k : Int) + 1)) rfl (by omega) (svF_set tb σ.ap s (k + 1)).1 (fun i _ hi => ((svF_set tb σ.ap s (k + 1)).2 i hi).trans ((svF_set tb σ.ap s k).2 i hi).symm))
      have hcell := (HF.out.lay.cell 4 rfl (j := s * 2 + 1) (by omega)).trans (congrArg some (svF_set tb σ.ap s (k + 1)).1)
      go_roundw
      case rel => exact ⟨k + 1, A2, c2, by omega, by omega, Lib.hid (by rw [HLA.out]; exact HF.out)⟩
      case measure =>
        rw [leftK_is hcell, HL.out]
        omega
    · obtain rfl : m = k := by omega
      have r0 := HQ.out.lay.cellB 0 rfl 0 (by omega)
      have r1 := HQ.out.lay.cellB 0 rfl 1 (by omega)
      have r2 := HQ.out.lay.cellB 0 rfl 2 (by omega)
      have r3 := HQ.out.lay.cellB 0 rfl 3 (by omega)
      have x0 := HQ.out.lay.cellB 1 rfl 0 (by omega)
      have x1 := HQ.out.lay.cellB 1 rfl 1 (by omega)
      have x2 := HQ.out.lay.cellB 1 rfl 2 (by omega)
      have x3 := HQ.out.lay.cellB 1 rfl 3 (by omega)
      have y0 := HQ.out.lay.frz 1 rfl (by omega) 0
      have y1 := HQ.out.lay.frz 1 rfl (by omega) 1
      have y2 := HQ.out.lay.frz 1 rfl (by omega) 2
      have y3 := HQ.out.lay.frz 1 rfl (by omega) 3
      simp only [toldL, ofL_0, ofL_1, ofL_2, ofL_3] at r0 r1 r2 r3 x0 x1 x2 x3
      obtain ⟨a, ha⟩ : ∃ a, lastA σ.ord (σ.ap s) m = a := ⟨_, rfl⟩
      rw [ha] at HQ r0 r1 r2 r3
      have HA := Lib.hid ha
      clear ha
      go_wp2
      have HF := Lib.hid ((((HQ.out.fld 1 0 (.int .i64 a.code) rfl (by omega) (by simp)).fld 1 1 (.string (bs a.data)) rfl (by omega) (by simp)).fld 1 2 (.int .i64 a.ver) rfl (by omega) (by simp)).fld 1 3 (.slice AN a.names.length cN) rfl (by omega) (by simp))
      have f0 := HF.out.lay.cellB 1 rfl 0 (by omega)
      have f1 := HF.out.lay.cellB 1 rfl 1 (by omega)
      have f2 := HF.out.lay.cellB 1 rfl 2 (by omega)
      have f3 := HF.out.lay.cellB 1 rfl 3 (by omega)
      simp only [List.set_cons_zero, List.set_cons_succ, ofL_0, ofL_1, ofL_2, ofL_3] at f0 f1 f2 f3
      refine bodyPost_ret (v := toldV AN cN a) (by simp [results, Tryd.results30, go_sem, f0, f1, f2, f3, toldV]) rfl ?_
      exact ⟨_, rfl, AN, cN, by rw [HA.out], by rw [HA.out]; exact HF.out.tl.tl⟩
end Go.Proofs.YtfdgjbanajodfaaDoor
