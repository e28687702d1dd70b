/- Arguments that are slices of records of numbers of several kinds: 'open_recsK'; of two int and a uint32: 'crF'. -/
import Derived.Test.YteocheaihbifaaaRow
set_option linter.unusedVariables false
set_option linter.unusedSimpArgs false
namespace Go.Proofs.Yteocheaihbifaaa
open Go.ChangeShapes Go.WideShapes Go.ChangeAt Go.RowKit

section
variable {H : Type} {enc : TypeId × Value → H} {P : Program} {w : World} {r : Reach} {b0 : Nat} {t e : TypeId} {v : Value} {d : DataW H} {p : List MemPlace}
theorem open_recsK {nf : Nat} (kd : Nat → IntKind) {fs : Array Field} (ht : P.underlying t = some (.slice e)) (he : P.underlying e = some (.struct fs)) (hone : Deep.oneCellFields P fs = true) (hC : P.cellsOf e = fs.size) (hnf : fs.size = nf)
    (hint : ∀ (j : Nat) (f : Field), fs[j]? = some f → P.underlying f.type = some (.int (kd j))) (hv : Value.okWide P w r b0 t v) (h : DataW.Trod enc P w 0 (fun _ => true) true t v d p) :
    ∃ (A : Option Addr) (n cap : Nat) (f : Nat → Int), v = .slice A n cap ∧ ((n ≤ cap ∧ cap ≤ maxLen) ∧ SlCap d cap) ∧ (∀ j, j < n * nf → (Lit.int (kd (j % nf)) (f j)).wf = true) ∧ Rd w w.heap.size A (n * nf) (fun j => .int (kd (j % nf)) (f j)) := by
  subst hnf
  obtain ⟨A, n, cap, rfl⟩ := okWide_slice ht hv
  obtain ⟨fuel, hf⟩ := h
  rcases Deep.open_slice ht hf with ⟨hcs, hd⟩ | ⟨a, len, cap', m, nn, D, Pl, hcs, hb, hl, hm, hmm, hx, hi⟩
  · simp only [Value.cells] at hcs
    injection hcs with hcs _
    injection hcs with h1 h2 h3
    subst h1 h2 h3
    exact ⟨none, 0, 0, fun _ => 0, rfl, ⟨⟨Nat.le_refl _, by unfold maxLen; omega⟩, .inl ⟨congrArg Prod.fst hd, rfl⟩⟩, fun j hj => by simp at hj, by rw [Nat.zero_mul]; exact Rd.zero _ _ _ _⟩
  · simp only [Value.cells] at hcs
    injection hcs with hcs _
    injection hcs with h1 h2 h3
    subst h1 h2 h3
    simp only [if_true] at hmm
    have key : ∀ i j, i < n → j < fs.size → ∃ x : Int, w.cell? (a.add (i * fs.size + j)) = some (.int (kd j) x) ∧ (Lit.int (kd j) x).wf = true := by
      intro i j hin hj
      obtain ⟨cs', hc, ht'⟩ := hi i (by omega)
      rw [hC] at hc
      obtain ⟨ys, n', hn', hy, hlen, hyl, hfl⟩ := DataW.trod_struct he ht'
      obtain ⟨_, hcl, hat⟩ := World.cells?_some hc
      have hfj : fs[j]? = some fs[j] := Array.getElem?_eq_getElem hj
      obtain ⟨ho, hk⟩ := Deep.hone_of hone j fs[j] hfj
      have hcell := hat j hj
      have h1 := hfl j fs[j] hfj
      rw [ho, hk] at h1
      have hjc : j < cs'.length := by omega
      have hone' : (cs'.drop j).take 1 = [cs'[j]] := by
        rw [List.drop_eq_getElem_cons hjc]
        rfl
      have hys : ys[j]? = some (ys[j]'(by omega)) := List.getElem?_eq_getElem (by omega)
      rw [hone', hys] at h1
      obtain ⟨x, hx1, hx2, hx3⟩ := DataW.trod_int (hint j fs[j] hfj) h1
      refine ⟨x, ?_, by assumption⟩
      rw [← Deep.add_add, hcell, List.getElem?_eq_getElem hjc]
      simpa using hx1
    refine ⟨some a, n, cap, fun t => cellInt w (a.add t), rfl, ⟨⟨hl, hm⟩, .inr ⟨_, _, congrArg Prod.fst hx, by simp; omega⟩⟩, fun t ht2 => ?_, fun hn => ⟨a, rfl, ?_, fun t ht2 => ?_⟩⟩
    · have hpos : 0 < fs.size := Nat.pos_of_ne_zero fun h0 => by rw [h0] at ht2; simp at ht2
      have hq : t / fs.size < n := (Nat.div_lt_iff_lt_mul hpos).2 ht2
      obtain ⟨x, hx2, hx3⟩ := key (t / fs.size) (t % fs.size) hq (Nat.mod_lt _ hpos)
      rw [Nat.div_add_mod'] at hx2
      show (Lit.int (kd (t % fs.size)) (cellInt w (a.add t))).wf = true
      rw [cellInt, hx2]
      exact hx3
    · have hpos : 0 < fs.size := Nat.pos_of_ne_zero fun h0 => by rw [h0] at hn; simp at hn
      have hn0 : 0 < n := Nat.pos_of_ne_zero fun h0 => by rw [h0] at hn; simp at hn
      obtain ⟨x, hx2, _⟩ := key 0 0 hn0 hpos
      have := World.block_lt_of_cell? w _ hx2
      rwa [addr_block] at this
    · have hpos : 0 < fs.size := Nat.pos_of_ne_zero fun h0 => by rw [h0] at ht2; simp at ht2
      have hq : t / fs.size < n := (Nat.div_lt_iff_lt_mul hpos).2 ht2
      obtain ⟨x, hx2, _⟩ := key (t / fs.size) (t % fs.size) hq (Nat.mod_lt _ hpos)
      rw [Nat.div_add_mod'] at hx2
      show _ = some (Value.int (kd (t % fs.size)) (cellInt w (a.add t)))
      rw [hx2, cellInt, hx2]
end
def crF (p r q : Nat → Int) : Nat → Value := fun j => if j % 3 = 0 then .int .i64 (p (j / 3)) else if j % 3 = 1 then .int .i64 (r (j / 3)) else .int .u32 (q (j / 3))
def crK (j : Nat) : IntKind := if j = 2 then .u32 else .i64
theorem crF_0 (p k m : Nat → Int) (j : Nat) : crF p k m (j * 3) = .int .i64 (p j) := by
  have h1 : j * 3 % 3 = 0 := by omega
  have h2 : j * 3 / 3 = j := by omega
  simp [crF, h1, h2]
theorem crF_1 (p k m : Nat → Int) (j : Nat) : crF p k m (j * 3 + 1) = .int .i64 (k j) := by
  have h1 : (j * 3 + 1) % 3 = 1 := by omega
  have h2 : (j * 3 + 1) / 3 = j := by omega
  simp [crF, h1, h2]
theorem crF_2 (p k m : Nat → Int) (j : Nat) : crF p k m (j * 3 + 2) = .int .u32 (m j) := by
  have h1 : (j * 3 + 2) % 3 = 2 := by omega
  have h2 : (j * 3 + 2) / 3 = j := by omega
  simp [crF, h1, h2]
theorem Rd.crs {w : World} {B n : Nat} {A : Option Addr} {p k m : Nat → Int} (h : Rd w B A (n * 3) (crF p k m)) {j : Nat} (hj : j < n) :
    ∃ ad, A = some ad ∧ ad.block < B ∧ w.cell? (ad.add (j * 3)) = some (.int .i64 (p j)) ∧ w.cell? ⟨(ad.add (j * 3)).block, (ad.add (j * 3)).off + 1, none⟩ = some (.int .i64 (k j)) ∧
      w.cell? ⟨(ad.add (j * 3)).block, (ad.add (j * 3)).off + 2, none⟩ = some (.int .u32 (m j)) := by
  obtain ⟨ad, e, hb, hc⟩ := h (by omega)
  have h0 := hc (j * 3) (by omega)
  have h1 := hc (j * 3 + 1) (by omega)
  have h2 := hc (j * 3 + 2) (by omega)
  rw [← addr_add] at h1 h2
  rw [crF_0] at h0
  rw [crF_1] at h1
  rw [crF_2] at h2
  exact ⟨ad, e, hb, h0, h1, h2⟩
theorem crs3 {w : World} {B n : Nat} {A : Option Addr} {f : Nat → Int} (h : Rd w B A (n * 3) (fun j => .int (crK (j % 3)) (f j))) : Rd w B A (n * 3) (crF (fun i => f (i * 3)) (fun i => f (i * 3 + 1)) (fun i => f (i * 3 + 2))) := by
  refine h.congr fun j _ => ?_
  have hd : j = j / 3 * 3 + j % 3 := by omega
  rcases (by omega : j % 3 = 0 ∨ j % 3 = 1 ∨ j % 3 = 2) with h1 | h1 | h1
  · rw [h1, Nat.add_zero] at hd
    rw [h1]; rw [hd, crF_0]; rfl
  · rw [h1] at hd
    rw [h1]; rw [hd, crF_1]; rfl
  · rw [h1] at hd
    rw [h1]; rw [hd, crF_2]; rfl
theorem crs_wf {n : Nat} {f : Nat → Int} (h : ∀ j, j < n * 3 → (Lit.int (crK (j % 3)) (f j)).wf = true) : ∀ i, i < n → (Lit.int .u32 (f (i * 3 + 2))).wf = true := by
  intro i hi
  have := h (i * 3 + 2) (by omega)
  rw [show (i * 3 + 2) % 3 = 2 by omega] at this
  exact this
end Go.Proofs.Yteocheaihbifaaa
