/- The walk of below. -/
import Derived.Test.YtfdgjbanajodfaaDoorTrPar
import Derived.Test.YtfdgjbanajodfaaDoorTrMap
import Derived.Test.YtfdgjbanajodfaaDoorSortS
import Derived.Test.YtfdgjbanajodfaaDoorRange
set_option linter.unusedVariables false
set_option linter.unusedSimpArgs false
namespace Go.Proofs.YtfdgjbanajodfaaDoor
open Go.RowKit Go.Maps Go.MapKept

abbrev rowT (tb bm : Nat) : LRow := blk tb 86 1 (ofL [.map (some bm)])
abbrev rowS (A : Option Addr) (c : Nat) (l : List Str) : LRow := ⟨A, 9, 1, l.length, c, strF l⟩
theorem infoStr : (Tryd.prog.info? 9).map (fun i => (i.zero, i.size, i.bytes)) = some (some (.string ⟨#[]⟩), 1, 16) := by kernel_rfl
theorem LayM.reφ {w0 w : World} {L : List LRow} {q : MRow} {Q : List MRow} (h : LayM w0 w L (q :: Q)) (φ : Array MapEntry → Nat → Prop) (hφ : ∀ es c, w.heap[q.b]? = some (.map es c) → q.φ es c → φ es c) : LayM w0 w L (⟨q.b, φ⟩ :: Q) := by
  refine ⟨h.lay, fun i r hi => ?_, fun i j r s hij hi hj => ?_⟩
  · rcases i with _ | i
    · obtain rfl : _ = r := by simpa using hi
      obtain ⟨h1, es, c, h2, h3⟩ := h.map 0 q rfl
      exact ⟨h1, es, c, h2, hφ es c h2 h3⟩
    · exact h.map (i + 1) r hi
  · have key : ∀ (m : Nat) (x : MRow), ((⟨q.b, φ⟩ : MRow) :: Q)[m]? = some x → ∃ x', (q :: Q)[m]? = some x' ∧ x'.b = x.b := by
      intro m x hm
      rcases m with _ | m
      · obtain rfl : _ = x := by simpa using hm
        exact ⟨q, rfl, rfl⟩
      · exact ⟨x, hm, rfl⟩
    obtain ⟨x, hx, ex⟩ := key i r hi
    obtain ⟨y, hy, ey⟩ := key j s hj
    rw [← ex, ← ey]
    exact h.ap i j x y hij hx hy
theorem partsOf_snoc (sk : List Str) (p s : Str) : partsOf (sk ++ [s]) p = if isBel p s then partsOf sk p ++ [lstL s] else partsOf sk p := by
  unfold partsOf
  rw [List.filter_append]
  cases h : isBel p s
  · simp [h]
  · simp [h]
theorem strF_snoc (l : List Str) (x : Str) : (∀ j, j < l.length → strF (l ++ [x]) j = strF l j) ∧ strF (l ++ [x]) l.length = .string (bs x) := by
  refine ⟨fun j hj => ?_, ?_⟩
  · simp [strF, List.getElem?_append_left hj]
  · simp [strF]
theorem Rng.grown {w w' : World} {b r clock base n cap size : Nat} {es : Array MapEntry} {seen : Array Nat} {A : Option Addr} {f : Nat → Value} {e : TypeId} (h : Rng w b r es clock seen) (ho : Own w base e size A n cap f) (hg : w.grownBy w' (ablock A)) : Rng w' b r es clock seen := by
  have key : ∀ (k : Nat) (o : Obj), w.heap[k]? = some o → (∀ cs t q, o ≠ .cells cs t q) → w'.heap[k]? = w.heap[k]? := fun k o hk hc => by
    refine hg.block k (Array.getElem?_eq_some_iff.1 hk).1 fun he => ?_
    rcases ho with ⟨rfl, _⟩ | ⟨g, cur, rfl, _, hgc, _⟩
    · cases he
    · have : k = g := by simpa [ablock] using he
      subst this
      rw [hgc] at hk
      injection hk with hk
      exact hc _ _ _ hk.symm
  obtain ⟨c0, h1, h2⟩ := h.it
  exact h.kept (key b _ h.mp (fun _ _ _ e => by cases e)) (key r _ h1 (fun _ _ _ e => by cases e))
theorem map_inj {α β : Type} (f : α → β) : ∀ {l : List α}, (l.map f).Nodup → ∀ {x y : α}, x ∈ l → y ∈ l → f x = f y → x = y
  | [], _, _, _, hx, _, _ => absurd hx (by simp)
  | a :: l, hn, x, y, hx, hy, he => by
    obtain ⟨h1, h2⟩ := List.nodup_cons.1 (by simpa using hn : (f a :: l.map f).Nodup)
    rcases List.mem_cons.1 hx with hxa | hx <;> rcases List.mem_cons.1 hy with hya | hy
    · rw [hxa, hya]
    · exact absurd (by rw [← hxa, he]; exact List.mem_map.2 ⟨y, hy, rfl⟩) h1
    · exact absurd (by rw [← hya, ← he]; exact List.mem_map.2 ⟨x, hx, rfl⟩) h1
    · exact map_inj f h2 hx hy he
set_option maxRecDepth 100000 in
set_option maxHeartbeats 3200000 in
theorem below_any (tb bm : Nat) (R : List LRow) (Q : List MRow) (w0 w : World) (st : TS) (p : Str) (hks : ∀ s ∈ st.ks, 47 ∈ s ∧ s.length ≤ 140737488351232) (hlen : st.ks.length ≤ 12) (h : LayM w0 w (rowT tb bm :: R) (⟨bm, TrE st⟩ :: Q)) :
    Calls Tryd.prog 26 #[.pointer (some ⟨tb, 0, none⟩), .string (bs p)] w fun e w' => ∃ A c, e = .returned (.slice A (partsOf st.ks p).length c) ∧ LayM w0 w' (rowS A c (srtL (partsOf st.ks p)) :: rowT tb bm :: R) (⟨bm, TrE st⟩ :: Q) := by
  obtain ⟨es, c, hbm, hE⟩ := h.mp 0 rfl
  have HKS := Lib.hid hks
  have HE := Lib.hid hE
  have hbm : w.heap[bm]? = some (.map es c) := hbm
  have HL := Lib.hid ((h.lnil 9 1 (strF [])).reφ (fun e' c' => e' = es ∧ c' = c) (fun e' c' h1 _ => by
    have h1 : w.heap[bm]? = some (.map e' c') := h1
    rw [hbm] at h1
    injection h1 with h1
    injection h1 with h1 h2
    exact ⟨h1.symm, h2.symm⟩))
  have c0 := h.lay.cellB 0 rfl 0 (by omega)
  have htb := (h.lay.at_ 0 rfl).2
  have hzw := h.size
  simp only [ofL_0] at c0
  clear hks hE h
  obtain ⟨iS, hiS, hzS0, hzS1, hzS2⟩ := info_parts infoStr
  go_enter Tryd.func26, Tryd.ntmps26
  go_wp2_with (first
    | (at_range; refine wpList_rangeE rfl (.tmp 12) _ rfl Tryd.underlying84 rfl hbm ?_; intro w5 hw5 hrg5; have HR5 := Lib.hid hrg5; have HM5 : Hid (LayM w0 w5 _ _) := Lib.hid (by rw [hw5]; exact HL.out.alloc _); clear hw5 hrg5)
    | fail)
  clear c0 htb hbm HL
  have hr0 : w0.heap.size ≤ w.heap.size := hzw
  generalize w.heap.size = r at HR5 hr0 ⊢
  clear hzw
  go_loopw [5] (fun l wr => ∃ (A : Option Addr) (cA : Nat) (seen : Array Nat) (sk : List Str), l = .slice A (partsOf sk p).length cA ∧ Hid (Rng wr bm r es c seen) ∧ Hid (LayM w0 wr (rowS A cA (partsOf sk p) :: rowT tb bm :: R) (⟨bm, fun e' c' => e' = es ∧ c' = c⟩ :: Q)) ∧ Hid (sk.Nodup ∧ ∀ a, SeenK κS es seen a ↔ a ∈ sk)) (fun _ wr => wr.rangeLeft bm r)
  case atStart => exact ⟨none, 0, #[], [], rfl, HR5, HM5, Lib.hid ⟨List.nodup_nil, fun a => ⟨fun h => absurd h (seenK_none _ _ _), fun h => absurd h (by simp)⟩⟩⟩
  case round =>
    clear HR5 HM5
    obtain ⟨A, cA, seen, sk, rfl, HR, HM, HS⟩ := hrel
    have hst := HE.out.kl.1
    have hsub : ∀ a, a ∈ sk → a ∈ st.ks := fun a ha => by
      obtain ⟨x, hx, hk, _⟩ := (HS.out.2 a).2 ha
      obtain ⟨b, hb, hk2⟩ := HE.out.kl.mem hx
      rwa [κS_inj _ _ (hk.symm.trans hk2)]
    have hpl : (partsOf sk p).length ≤ 12 := by
      have h1 : (partsOf sk p).length ≤ sk.length := by unfold partsOf; rw [List.length_map]; exact List.length_filter_le _ _
      have h2 : sk.length ≤ st.ks.length := HS.out.1.length_le_of_subset hsub
      omega
    go_wp2_with (first
      | (at_next; refine wpList_nextE rfl (.tmp 13) rfl rfl HR.out hst ?_ ?_)
      | fail)
    · intro h0'
      have h0 : (leftOf es seen).size = 0 := by simpa using h0'
      have hperm : sk.Perm st.ks := (List.perm_ext_iff_of_nodup HS.out.1 HE.out.nodup).2 fun a => ⟨hsub a, fun ha => (HS.out.2 a).1 (seenK_all h0 (HE.out.kl.has ha))⟩
      have hpp : (partsOf sk p).Perm (partsOf st.ks p) := (hperm.filter _).map _
      have HLEN := Lib.hid hpp.length_eq
      have HSRT := Lib.hid (srt_perm hpp)
      clear h0 h0' hperm hpp hsub
      go_wp2_with fail
      refine (sort_strs HM.out 0 (partsOf sk p) rfl (by omega)).mono ?_
      rintro e w8 ⟨rfl, h8⟩
      have HM8 := Lib.hid h8
      clear h8 HM
      go_wp2
      go_ret
      refine ⟨A, cA, by rw [HLEN.out]; rfl, ?_⟩
      have h9 := HM8.out.reφ (TrE st) (fun es' c' _ h => by obtain ⟨rfl, rfl⟩ := h; exact HE.out)
      have h10 : LayM w0 w8 (⟨A, 9, 1, (srtL (partsOf st.ks p)).length, cA, strF (srtL (partsOf st.ks p))⟩ :: rowT tb bm :: R) (⟨bm, TrE st⟩ :: Q) := by
        rw [← HSRT.out, srt_len]; exact h9
      exact h10
    · intro e w6 hem' hns hrg hlt hgr hsz hen
      have hem : e ∈ es.toList := by simpa using hem'
      obtain ⟨s, hs, hk⟩ := HE.out.kl.mem hem
      have HR6 := Lib.hid hrg
      have HM6 := Lib.hid (HM.out.turned hgr HR.out hr0)
      have HLQ : Hid (wr.rangeLeft bm r = (leftOf es seen).size) := Lib.hid HR.out.left_eq
      have HPU := Lib.hid (fun (x : Str) => seenK_push (seen := seen) κS_inj hst hem hk x)
      have HLT2 := Lib.hid hlt
      have HSZ := Lib.hid hsz
      have hno : s ∉ sk := fun h => by
        obtain ⟨x, hx, hxk, hxs⟩ := (HS.out.2 s).2 h
        have hxe : x = e := map_inj (·.key) hst.2.2 hx hem (hxk.trans hk.symm)
        have hns' : seen.contains e.born = false := by simpa using hns
        rw [hxe, hns'] at hxs; cases hxs
      have HNO := Lib.hid hno
      rw [hk] at hen ⊢
      unfold κS at hen
      unfold κS
      generalize seen.push e.born = seen2 at *
      clear hrg hgr hns hlt hem hem' HM HR hno hsub hsz
      have HIS : Hid (isBel p s = (((bs (parL s)).toList == (bs p).toList) && !((bs s).toList == [47]))) := Lib.hid (by rw [bs_toList, bs_toList, bs_toList]; rfl)
      have HSN : Hid ((sk ++ [s]).Nodup ∧ ∀ a, SeenK κS es seen2 a ↔ a ∈ sk ++ [s]) := Lib.hid ⟨List.nodup_append.2 ⟨HS.out.1, by simp, fun a ha b hb => by rw [List.mem_singleton.1 hb]; exact fun e => HNO.out (by rw [← e]; exact ha)⟩, fun a => by
        rw [HPU.out a, HS.out.2 a, List.mem_append, List.mem_singleton]⟩
      have HPS := Lib.hid (partsOf_snoc sk p s)
      obtain ⟨b1, hb1⟩ : ∃ b, ((bs (parL s)).toList == (bs p).toList) = b := ⟨_, rfl⟩
      obtain ⟨b2, hb2⟩ : ∃ b, ((bs s).toList == [47]) = b := ⟨_, rfl⟩
      rw [hb1, hb2] at HIS
      have HSM := Lib.hid (strF_snoc (partsOf sk p) (lstL s))
      cases b1
      · have HN : Hid (partsOf (sk ++ [s]) p = partsOf sk p) := Lib.hid (by rw [HPS.out, HIS.out]; rfl)
        go_wp2_with (first | (go_at_call 27; refine (parent_any s _ (HKS.out s hs).1 (HKS.out s hs).2).mono ?_; rintro e5 w7 ⟨rfl, hw7⟩
                              have HM7 := Lib.hid (HM6.out.drew)
                              have HR7 : Hid (Rng w6.drew bm r es c seen2) := Lib.hid (HR6.out.sim ⟨rfl, rfl, rfl, rfl⟩)
                              rw [← hw7] at HM7 HR7
                              have hz7 := HM7.out.size
                              clear hw7) | fail)
        go_roundw
        case rel => exact ⟨A, cA, seen2, sk ++ [s], by rw [HN.out], HR7, Lib.hid (by rw [HN.out]; exact HM7.out), HSN⟩
        case measure =>
          have h1 := HR7.out.left_eq
          rw [h1, HLQ.out]; exact HLT2.out
      · cases b2
        · have HN : Hid (partsOf (sk ++ [s]) p = partsOf sk p ++ [lstL s]) := Lib.hid (by rw [HPS.out, HIS.out]; rfl)
          generalize hpk : partsOf sk p = pk at HM6 HN HSM hpl ⊢
          clear hpk
          go_wp2_with (first
            | (go_at_call 27; refine (parent_any s _ (HKS.out s hs).1 (HKS.out s hs).2).mono ?_; rintro e5 w7 ⟨rfl, hw7⟩
               have HM7 := Lib.hid (HM6.out.drew)
               have HR7 : Hid (Rng w6.drew bm r es c seen2) := Lib.hid (HR6.out.sim ⟨rfl, rfl, rfl, rfl⟩)
               rw [← hw7] at HM7 HR7
               have hz7 := HM7.out.size
               clear hw7)
            | (at_builtin; refine wpList_ap1 rfl (.tmp 30) (.tmp 32) _ rfl 9 iS _ 16 Tryd.underlying33 hiS hzS0 hzS1 hzS2 rfl w0.heap.size rfl ((HM7.out.alloc _).lay.own 0 _ rfl) rfl (cell_new _ _ _ _ _ rfl (one_cell _)) (fun _ _ => rfl) (strF (pk ++ [lstL s])) HSM.out.1 (one_at HSM.out.2) (pk.length + 1) rfl (by unfold maxLen; omega) (by omega) (by simp; omega) ?_
               intro A2 cap2 w9 ho hg ha
               have HM9 := Lib.hid ((HM7.out.alloc _).app 0 rfl ho hg ha)
               have HR9 := Lib.hid ((HR7.out.alloc (.cells #[.string (bs (lstL s))] 9)).grown ((HM7.out.alloc _).lay.own 0 _ rfl) hg)
               clear ho hg ha)
            | fail)
          go_roundw
          case rel => exact ⟨A2, cap2, seen2, sk ++ [s], by rw [HN.out, List.length_append]; rfl, HR9, Lib.hid (by
            rw [HN.out]
            show LayM w0 w9 (⟨A2, 9, 1, (pk ++ [lstL s]).length, cap2, strF (pk ++ [lstL s])⟩ :: rowT tb bm :: R) _
            rw [List.length_append]; exact HM9.out), HSN⟩
          case measure =>
            have h1 := HR9.out.left_eq
            rw [h1, HLQ.out]; exact HLT2.out
        · have HN : Hid (partsOf (sk ++ [s]) p = partsOf sk p) := Lib.hid (by rw [HPS.out, HIS.out]; rfl)
          go_wp2_with (first | (go_at_call 27; refine (parent_any s _ (HKS.out s hs).1 (HKS.out s hs).2).mono ?_; rintro e5 w7 ⟨rfl, hw7⟩
                                have HM7 := Lib.hid (HM6.out.drew)
                                have HR7 : Hid (Rng w6.drew bm r es c seen2) := Lib.hid (HR6.out.sim ⟨rfl, rfl, rfl, rfl⟩)
                                rw [← hw7] at HM7 HR7
                                have hz7 := HM7.out.size
                                clear hw7) | fail)
          go_roundw
          case rel => exact ⟨A, cA, seen2, sk ++ [s], by rw [HN.out], HR7, Lib.hid (by rw [HN.out]; exact HM7.out), HSN⟩
          case measure =>
            have h1 := HR7.out.left_eq
            rw [h1, HLQ.out]; exact HLT2.out
end Go.Proofs.YtfdgjbanajodfaaDoor
