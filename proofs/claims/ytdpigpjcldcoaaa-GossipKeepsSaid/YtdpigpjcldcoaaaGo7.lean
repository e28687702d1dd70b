/- slices.SortFunc on a list of knowns. -/
import Derived.Test.YtdpigpjcldcoaaaGo6
import Derived.Test.YtdpigpjcldcoaaaGo3
set_option linter.unusedVariables false
set_option linter.unusedSimpArgs false
namespace Go.Proofs.Ytdpigpjcldcoaaa
open Go.RowKit Go.Lib Go.Sort

def finA (len : Nat) : Array (Fin len) := (List.finRange len).toArray
theorem finA_size (len : Nat) : (finA len).size = len := by simp [finA]
abbrev encK (m : Nat) (F : Nat → Value) : Fin m → List Value := fun x => [F (x.val * 2), F (x.val * 2 + 1)]
section
variable {m : Nat} {F : Nat → Value} [Inhabited (Fin m)]
theorem heap_sortK {w : World} {g n : Nat} {os : Array Obj} {cur : Array Value} {e : TypeId} {fr : Nat × Nat} (d : Array (Fin m)) (hb : w.heap[g]? = some (.cells cur e fr)) :
    (sortWorldK (encK m F) 2 w g 0 n d os).heap[g]? = some (.cells (putCells id 0 (flatK (encK m F) 2 d) cur) e fr) := by
  have hg : g < w.heap.size := (Array.getElem?_eq_some_iff.1 hb).1
  unfold sortWorldK
  rw [heap_grow_old _ _ (by simpa [putRowK] using hg)]
  simp [putRowK, putRow, mapBlock, Sort.ahead, Array.getElem?_modify, hb, onCells]
theorem grownBy_sortK {w : World} {g n : Nat} {os : Array Obj} (d : Array (Fin m)) : w.grownBy (sortWorldK (encK m F) 2 w g 0 n d os) (some g) := by
  refine ⟨rfl, rfl, rfl, by simp [sortWorldK, putRowK], fun k hk hne => ?_⟩
  unfold sortWorldK
  rw [heap_grow_old _ _ (by simpa [putRowK] using hk)]
  have : g ≠ k := fun e => hne (by rw [e])
  simp [putRowK, putRow, mapBlock, Sort.ahead, Array.getElem?_modify, this]
end
/-- What the sort gives: an order of the places. -/
structure SrtOut (cf : Nat → Nat → Int) (len : Nat) (u : Nat → Nat) : Prop where
  lt : ∀ t, t < len → u t < len
  inj : ∀ s t, s < t → t < len → u s ≠ u t
  sur : ∀ i, i < len → ∃ r, r < len ∧ u r = i
  up : ∀ i j, i < j → j < len → ¬ cf (u j) (u i) < 0
theorem ext_all {α : Type} (d : Array α) (n : Nat) (h : d.size = n) : d.extract 0 n = d := by subst h; simp
theorem srtOut_of {len : Nat} {cf : Nat → Nat → Int} [Inhabited (Fin len)] {d' : Array (Fin len)} (hp : PermIn 0 (finA len).size (finA len) d') (hs : SortedIn (ltOf fun a b : Fin len => cf a.val b.val) 0 (finA len).size d') : SrtOut cf len (fun t => (d'[t]!).val) := by
  obtain ⟨h1, -, h3⟩ := hp
  rw [finA_size] at h1 h3 hs
  have h3 : d'.toList.Perm (List.finRange len) := by
    have e1 : d'.extract 0 len = d' := ext_all d' len h1
    have e2 : (finA len).extract 0 len = finA len := ext_all _ _ (finA_size len)
    rw [e1, e2] at h3
    have e3 : (finA len).toList = List.finRange len := rfl
    rw [e3] at h3
    exact h3
  have hnd : d'.toList.Nodup := h3.nodup_iff.2 (List.nodup_finRange len)
  have hat : ∀ t, (ht : t < len) → d'[t]! = d'.toList[t]'(by simp [h1]; exact ht) := fun t ht => by
    rw [getElem!_pos d' t (by omega)]; simp
  refine ⟨fun t ht => (d'[t]!).isLt, fun s t hst ht he => ?_, fun i hi => ?_, fun i j hij hj hc => ?_⟩
  · have he : d'[s]! = d'[t]! := Fin.ext he
    rw [hat s (by omega), hat t ht] at he
    exact (List.pairwise_iff_getElem.1 hnd s t (by simp [h1]; omega) (by simp [h1]; omega) hst) he
  · have hm : (⟨i, hi⟩ : Fin len) ∈ d'.toList := h3.mem_iff.2 (List.mem_finRange _)
    obtain ⟨r, hr, he⟩ := List.mem_iff_getElem.1 hm
    have hr' : r < len := by simpa [h1] using hr
    exact ⟨r, hr', by show (d'[r]!).val = i; rw [hat r hr', he]⟩
  · have := hs i j (Nat.zero_le _) hij hj
    unfold ltOf at this
    rw [decide_eq_false_iff_not] at this
    exact this hc
def permF (u : Nat → Nat) (F : Nat → Value) (j : Nat) : Value := F (u (j / 2) * 2 + j % 2)
theorem sort_rows {m : Nat} {w0 w : World} {L : List LRow} {g cp : Nat} {F : Nat → Value} {cf : Nat → Nat → Int} (hpos : 0 < m) (hm : m ≤ 1000) (h : Lay w0 w (rowK (some ⟨g, 0, none⟩) m cp F :: L)) (hone : ∀ j, j < m * 2 → (F j).oneCell' = true) (hO : SWO (ltOf fun a b : Fin m => cf a.val b.val)) (gf : Nat) (cb : Array Value) (eg : ∀ args w, (callFunc gf args).run Try.prog w = .ok (.enter gf args) w)
    (hcl : ∀ W, w.grownBy W (some g) → ∀ x y, x < m → y < m → Calls Try.prog gf (#[.agg #[F (x * 2), F (x * 2 + 1)], .agg #[F (y * 2), F (y * 2 + 1)]] ++ cb) W fun e w' => e = .returned (.int .i64 (cf x y)) ∧ ∃ q os', w' = grow (W.drewN q) os') :
    Calls Try.prog 17 #[.slice (some ⟨g, 0, none⟩) m cp, .func (.func gf) #[] cb] w fun e w' => e = .returned (.tuple #[]) ∧ ∃ u, SrtOut cf m u ∧ Lay w0 w' (rowK (some ⟨g, 0, none⟩) m cp (permF u F) :: L) := by
  have hInh : Inhabited (Fin m) := ⟨⟨0, hpos⟩⟩
  rcases h.own 0 _ rfl with ⟨h1, -⟩ | ⟨g', cur, hv, h2, h3, h4, h5, h6, h7⟩
  · cases h1
  have hgg : g = g' := by
    have : (some (⟨g, 0, none⟩ : Addr)) = some ⟨g', 0, none⟩ := hv
    injection this with this; injection this
  subst hgg
  have h4 : m ≤ cp := h4
  have h6 : cur.size = cp * 2 := h6
  have h7 : ∀ j, j < m * 2 → cur[j]? = some (F j) := h7
  have hg : g < w.heap.size := (Array.getElem?_eq_some_iff.1 h3).1
  have hfl : ∀ (d : Array (Fin m)) j, j < d.size * 2 → (flatK (encK m F) 2 d)[j]! = F ((d[j / 2]!).val * 2 + j % 2) := by
    intro d j hj
    rw [get_flatK _ _ _ _ hj]
    rcases (by omega : j % 2 = 0 ∨ j % 2 = 1) with e | e <;> rw [e] <;> rfl
  have hH : HoldsK (encK m F) 2 w g 0 (finA m) := by
    intro j hj
    rw [size_flatK, finA_size] at hj
    refine ⟨?_, by simp [World.frozen?, h3]⟩
    rw [Nat.zero_add, cell_of_row w g j cur _ (0, 0) h3, h7 j hj, hfl _ _ (by rw [finA_size]; exact hj)]
    have : (finA m)[j / 2]! = ⟨j / 2, by omega⟩ := by
      rw [getElem!_pos _ (j / 2) (by rw [finA_size]; omega)]
      simp [finA]
    rw [this]
    show some (F j) = some (F (j / 2 * 2 + j % 2))
    congr 2; omega
  have hcmp : CmpLays Try.prog gf cb (encK m F) 2 (fun a b : Fin m => cf a.val b.val) g 0 (finA m).size w := by
    intro q os dk _ x y
    exact hcl _ (grownBy_sortK dk) x.val y.val x.isLt y.isLt
  have h1 : ∀ x : Fin m, ∀ v ∈ encK m F x, v.oneCell' = true := by
    intro x v hv
    have hx := x.isLt
    simp only [encK, List.mem_cons, List.not_mem_nil, or_false] at hv
    rcases hv with rfl | rfl <;> exact hone _ (by omega)
  have hS := Try.slices_SortFuncK (encK m F) (fun _ => rfl) h1 (fun a b : Fin m => cf a.val b.val) hO gf cb g 0 cp (finA m) w eg hcmp hH hg (by rw [finA_size]; omega)
  rw [finA_size] at hS
  refine hS.mono ?_
  rintro e w' ⟨rfl, d', n, os, hp, hs, rfl⟩
  refine ⟨rfl, fun t => (d'[t]!).val, srtOut_of (by rw [finA_size]; exact hp) (by rw [finA_size]; exact hs), ?_⟩
  have hd : d'.size = m := by have := hp.1; rwa [finA_size] at this
  refine h.app 0 rfl (.inr ⟨g, _, rfl, h2, heap_sortK _ h3, h4, h5, by simp [putCells, h6], fun j hj => ?_⟩) (grownBy_sortK _) (.inl rfl)
  have hj : j < m * 2 := hj
  show (putCells id 0 (flatK (encK m F) 2 d') cur)[j]? = some (permF (fun t => (d'[t]!).val) F j)
  have hx := hfl d' j (by omega)
  unfold permF
  have hsz : j < (flatK (encK m F) 2 d').size := by rw [size_flatK, hd]; exact hj
  rw [getElem!_pos _ j hsz] at hx
  simp [putCells, show j < cur.size by omega, hd, hj, hx]
theorem rd_grown {w W : World} {B n g : Nat} {b : Nat} {f : Nat → Value} (h : Rd w B (some ⟨b, 0, none⟩) n f) (hg : w.grownBy W (some g)) (hb : B ≤ w.heap.size) (hne : b ≠ g) : Rd W B (some ⟨b, 0, none⟩) n f := by
  intro hn
  obtain ⟨ad, e, h1, h2⟩ := h hn
  refine ⟨ad, e, h1, fun j hj => ?_⟩
  have hab : (ad.add j).block = b := by rw [addr_block]; injection e with e; rw [← e]
  refine (World.cell?_of_block (hg.block (ad.add j).block ?_ ?_)).trans (h2 j hj)
  · rw [addr_block]; omega
  · rw [hab]; intro e1; injection e1 with e1; exact hne (by first | exact e1 | exact e1.symm)
/-- The sort of what one knows. -/
theorem sort_any {w0 w : World} {P VR : List LRow} {n m co : Nat} {Ao : Option Addr} {F : Nat → Value} {kl : List Kn} (hn : n ≤ 1000) (hm : m = kl.length) (hm2 : m ≤ 1000) (h : Lay w0 w (rowK Ao m co F :: (P ++ VR))) (hk : KnF VR n kl F) :
    Calls Try.prog 17 #[.slice Ao m co, .func (.func 18) #[] #[]] w fun e w' => e = .returned (.tuple #[]) ∧ ∃ u, SrtOut (fun a b => cmpK n (knAt kl a) (knAt kl b)) m u ∧ Lay w0 w' (rowK Ao m co (permF u F) :: (P ++ VR)) := by
  rcases Nat.eq_zero_or_pos m with h0 | hp
  · subst h0
    refine (Try.slices_SortFunc_none Ao co _ w).mono ?_
    rintro e w' ⟨rfl, rfl⟩
    exact ⟨rfl, id, ⟨fun t ht => absurd ht (by omega), fun s t _ ht => absurd ht (by omega), fun i hi => absurd hi (by omega), fun i j _ hj => absurd hj (by omega)⟩, h.congr 0 _ rfl (fun j hj => absurd hj (by show ¬ j < 0 * 2; omega))⟩
  · have hone := hk.one
    obtain ⟨g, rfl⟩ : ∃ g, Ao = some ⟨g, 0, none⟩ := by
      rcases h.own 0 _ rfl with ⟨_, h1, _⟩ | ⟨g, cur, hv, _⟩
      · have h1 : m = 0 := h1
        omega
      · exact ⟨g, hv⟩
    refine sort_rows (cf := fun a b => cmpK n (knAt kl a) (knAt kl b)) hp hm2 h (fun j hj => hone j (by omega)) (cmp_swo n fun a : Fin m => knAt kl a.val) 18 #[] (fun _ _ => rfl) fun W hgr x y hx hy => ?_
    obtain ⟨e1, v1⟩ := hk x (by omega)
    obtain ⟨e2, v2⟩ := hk y (by omega)
    have rd : ∀ (b c : Nat) (f : Nat → Nat), InV VR n (.slice (some ⟨b, 0, none⟩) n c) f → Rd W w.heap.size (some ⟨b, 0, none⟩) n (fun t => .int .i64 (f t : Nat)) := fun b c f hv => by
      have hr := hv.rdG (rowK (some ⟨g, 0, none⟩) m co F :: P) h
      obtain ⟨k, g', c', h1, h2⟩ := hv
      have e : b = g' := by injection h2 with h2; injection h2 with h2; injection h2
      subst e
      have hj : (rowK (some ⟨g, 0, none⟩) m co F :: (P ++ VR))[P.length + k + 1]? = some (vrow b c' n f) := by
        rw [List.getElem?_cons_succ, List.getElem?_append_right (by omega), Nat.add_sub_cancel_left]; exact h1
      have hne : g ≠ b := h.ne_ 0 (P.length + k + 1) rfl hj (by omega)
      exact rd_grown hr hgr (Nat.le_refl _) hne.symm
    have q1 := v1
    have q2 := v2
    obtain ⟨_, ga, ca, _, hx2⟩ := v1
    obtain ⟨_, gb, cb, _, hy2⟩ := v2
    rw [hx2] at q1
    rw [hy2] at q2
    rw [e1, e2, hx2, hy2, Array.append_empty]
    exact closure_any n ga ca gb cb w.heap.size (knAt kl x) (knAt kl y) W hn hgr.size (rd ga ca _ q1) (rd gb cb _ q2)
end Go.Proofs.Ytdpigpjcldcoaaa
