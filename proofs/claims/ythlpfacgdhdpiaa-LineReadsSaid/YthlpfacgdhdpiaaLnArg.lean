/- A law's argument that is a list of operations; the plain laws of orders. -/
import Derived.Test.YthlpfacgdhdpiaaLn1
import Derived.Test.YthlpfacgdhdpiaaRow
import Derived.ChangeArms
set_option linter.unusedVariables false
set_option linter.unusedSimpArgs false
namespace Go.Proofs.Ythlpfacgdhdpiaa
open Go.ChangeShapes Go.WideShapes Go.ChangeAt Go.RowKit

def cellBl (w : World) (a : Addr) : Bool := match w.cell? a with | some (.bool b) => b | _ => false
section
variable {H : Type} {enc : TypeId × Value → H} {P : Program} {w : World} {r : Reach} {b0 : Nat} {t e : TypeId} {v : Value} {d : DataW H} {p : List MemPlace}
theorem open_ops {fs : Array Field} (ht : P.underlying t = some (.slice e)) (he : P.underlying e = some (.struct fs)) (hone : Deep.oneCellFields P fs = true) (hC : P.cellsOf e = fs.size) (hnf : fs.size = 5)
    (hint : ∀ (j : Nat) (f : Field), fs[j]? = some f → P.underlying f.type = if j = 3 then some .bool else some (.int .i64)) (hv : Value.okWide P w r b0 t v) (h : DataW.Trod enc P w 0 (fun _ => true) true t v d p) :
    ∃ (A : Option Addr) (cap : Nat) (o : Opl), v = .slice A o.n cap ∧ ((o.n ≤ cap ∧ cap ≤ maxLen) ∧ SlCap d cap) ∧ Rd w w.heap.size A (o.n * 5) (opF o) := by
  obtain ⟨A, n, cap, rfl⟩ := okWide_slice ht hv
  obtain ⟨fuel, hf⟩ := h
  rcases Deep.open_slice ht hf with ⟨hcs, hd⟩ | ⟨a, len, cap', m, nn, D, Pl, hcs, hb, hl, hm, hmm, hx, hi⟩
  · simp only [Value.cells] at hcs
    injection hcs with hcs _
    injection hcs with h1 h2 h3
    subst h1 h2 h3
    exact ⟨none, 0, ⟨0, fun _ => 0, fun _ => 0, fun _ => 0, fun _ => false, fun _ => 0⟩, rfl, ⟨⟨Nat.le_refl _, by unfold maxLen; omega⟩, .inl ⟨congrArg Prod.fst hd, rfl⟩⟩, by rw [Nat.zero_mul]; exact Rd.zero _ _ _ _⟩
  · simp only [Value.cells] at hcs
    injection hcs with hcs _
    injection hcs with h1 h2 h3
    subst h1 h2 h3
    simp only [if_true] at hmm
    have key : ∀ i j, i < n → j < 5 → if j = 3 then ∃ x : Bool, w.cell? (a.add (i * 5 + j)) = some (.bool x) else ∃ x : Int, w.cell? (a.add (i * 5 + j)) = some (.int .i64 x) := by
      intro i j hin hj
      obtain ⟨cs', hc, ht'⟩ := hi i (by omega)
      rw [hC, hnf] at hc
      obtain ⟨ys, n', hn', hy, hlen, hyl, hfl⟩ := DataW.trod_struct he ht'
      obtain ⟨_, hcl, hat⟩ := World.cells?_some hc
      have hfj : fs[j]? = some (fs[j]'(by omega)) := Array.getElem?_eq_getElem (by omega)
      obtain ⟨ho, hk⟩ := Deep.hone_of hone j _ hfj
      have hcell := hat j hj
      have h1 := hfl j _ hfj
      rw [ho, hk] at h1
      have hjc : j < cs'.length := by omega
      have hone' : (cs'.drop j).take 1 = [cs'[j]] := by
        rw [List.drop_eq_getElem_cons hjc]
        rfl
      have hys : ys[j]? = some (ys[j]'(by omega)) := List.getElem?_eq_getElem (by omega)
      rw [hone', hys] at h1
      have hu := hint j _ hfj
      have hat2 : w.cell? (a.add (i * 5 + j)) = some cs'[j] := by
        rw [← Deep.add_add, hcell, List.getElem?_eq_getElem hjc]
      split
      · rename_i h3
        rw [if_pos h3] at hu
        obtain ⟨x, hx1, _⟩ := DataW.trod_bool hu h1
        exact ⟨x, by rw [hat2]; simpa using hx1⟩
      · rename_i h3
        rw [if_neg h3] at hu
        obtain ⟨x, hx1, _, _⟩ := DataW.trod_int hu h1
        exact ⟨x, by rw [hat2]; simpa using hx1⟩
    have k0 : ∀ i, i < n → ∃ x : Int, w.cell? (a.add (i * 5 + 0)) = some (.int .i64 x) := fun i h => key i 0 h (by omega)
    have k1 : ∀ i, i < n → ∃ x : Int, w.cell? (a.add (i * 5 + 1)) = some (.int .i64 x) := fun i h => key i 1 h (by omega)
    have k2 : ∀ i, i < n → ∃ x : Int, w.cell? (a.add (i * 5 + 2)) = some (.int .i64 x) := fun i h => key i 2 h (by omega)
    have k3 : ∀ i, i < n → ∃ x : Bool, w.cell? (a.add (i * 5 + 3)) = some (.bool x) := fun i h => key i 3 h (by omega)
    have k4 : ∀ i, i < n → ∃ x : Int, w.cell? (a.add (i * 5 + 4)) = some (.int .i64 x) := fun i h => key i 4 h (by omega)
    refine ⟨some a, cap, ⟨n, fun i => cellInt w (a.add (i * 5 + 0)), fun i => cellInt w (a.add (i * 5 + 1)), fun i => cellInt w (a.add (i * 5 + 2)), fun i => cellBl w (a.add (i * 5 + 3)), fun i => cellInt w (a.add (i * 5 + 4))⟩, rfl, ⟨⟨hl, hm⟩, .inr ⟨_, _, congrArg Prod.fst hx, by simp; omega⟩⟩, fun hn => ⟨a, rfl, ?_, fun t ht2 => ?_⟩⟩
    · have hn0 : 0 < n := Nat.pos_of_ne_zero fun h0 => by simp [h0] at hn
      obtain ⟨x, hx2⟩ := k0 0 hn0
      have := World.block_lt_of_cell? w _ hx2
      rwa [addr_block] at this
    · have ht2 : t < n * 5 := ht2
      have hq : t / 5 < n := by omega
      have hd : t = t / 5 * 5 + t % 5 := by omega
      generalize t / 5 = i at hq hd
      have h5 : t % 5 < 5 := by omega
      generalize t % 5 = j at hd h5
      subst hd
      rcases (by omega : j = 0 ∨ j = 1 ∨ j = 2 ∨ j = 3 ∨ j = 4) with rfl | rfl | rfl | rfl | rfl
      · obtain ⟨x, hx2⟩ := k0 i hq
        rw [show i * 5 + 0 = i * 5 from rfl, opF_0]
        rw [show i * 5 + 0 = i * 5 from rfl] at hx2
        show _ = some (Value.int .i64 (cellInt w (a.add (i * 5))))
        rw [hx2, cellInt, hx2]
      · obtain ⟨x, hx2⟩ := k1 i hq
        rw [opF_1]
        show _ = some (Value.int .i64 (cellInt w (a.add (i * 5 + 1))))
        rw [hx2, cellInt, hx2]
      · obtain ⟨x, hx2⟩ := k2 i hq
        rw [opF_2]
        show _ = some (Value.int .i64 (cellInt w (a.add (i * 5 + 2))))
        rw [hx2, cellInt, hx2]
      · obtain ⟨x, hx2⟩ := k3 i hq
        rw [opF_3]
        show _ = some (Value.bool (cellBl w (a.add (i * 5 + 3))))
        rw [hx2, cellBl, hx2]
      · obtain ⟨x, hx2⟩ := k4 i hq
        rw [opF_4]
        show _ = some (Value.int .i64 (cellInt w (a.add (i * 5 + 4))))
        rw [hx2, cellInt, hx2]
end

/-- The value behind the first q of an order. -/
def nwS (o : Opl) (g : Nat → Nat) : Nat → Int
  | 0 => 0
  | q + 1 => if o.wr (g q) then o.vl (g q) else nwS o g q
def nwF (o : Opl) (v : Int) (g : Nat → Nat) : Nat → Int
  | 0 => v
  | q + 1 => if o.wr (g q) then o.vl (g q) else nwF o v g q
theorem nwF_0 (o : Opl) (g : Nat → Nat) : ∀ q, nwF o 0 g q = nwS o g q
  | 0 => rfl
  | q + 1 => by rw [nwF, nwS, nwF_0 o g q]
theorem nwF_cons (o : Opl) (v : Int) (i : Nat) (g : Nat → Nat) (g' : Nat → Nat) (h0 : g' 0 = i) (h1 : ∀ q, g' (q + 1) = g q) : ∀ q, nwF o v g' (q + 1) = nwF o (if o.wr i then o.vl i else v) g q
  | 0 => by rw [nwF, nwF, nwF, h0]
  | q + 1 => by rw [nwF, nwF_cons o v i g g' h0 h1 q, nwF, h1 q]
def atL (l : List Nat) (q : Nat) : Nat := l.getD q 0
theorem leg_at {o : Opl} : ∀ {l : List Nat} {last : Int}, Leg o last l → ∀ q, q < l.length → o.wr (atL l q) = true ∨ o.vl (atL l q) = nwF o (nowV o last) (atL l) q
  | [], _, _, q, hq => by simp at hq
  | i :: l, last, h, 0, _ => h.1
  | i :: l, last, h, q + 1, hq => by
    have := leg_at h.2 q (by simpa using hq)
    rw [nwF_cons o (nowV o last) i (atL l) (atL (i :: l)) rfl (fun _ => rfl), ← nowV_next]
    exact this
structure Good (o : Opl) (l : List Nat) : Prop where
  nd : ∀ p q, p < q → q < o.n → atL l p ≠ atL l q
  len : l.length = o.n
  lt : ∀ q, q < o.n → atL l q < o.n
  has : ∀ i, i < o.n → ∃ q, q < o.n ∧ atL l q = i
  apart : ∀ p q, p < q → q < o.n → lineB o (atL l q) (atL l p) = false
  val : ∀ q, q < o.n → o.wr (atL l q) = true ∨ o.vl (atL l q) = nwS o (atL l) q
theorem atL_mem {l : List Nat} {q : Nat} (h : q < l.length) : l[q]? = some (atL l q) := by
  unfold atL
  rw [List.getD_eq_getElem?_getD, List.getElem?_eq_getElem h]; rfl
theorem run_good {o : Opl} {l : List Nat} (h : RunO o (lineB o) 0 (-1) l) : Good o l := by
  have hord := run_ord (Nat.two_pow_pos _) h
  have hlen : l.length = o.n := by
    have := run_len (Nat.two_pow_pos _) h
    have h0 : popTo 0 o.n = 0 := by
      have : ∀ m, popTo 0 m = 0 := by
        intro m
        induction m with
        | zero => rfl
        | succ m ih => rw [popTo, ih]; simp
      exact this _
    omega
  refine ⟨fun p q hpq hq he => ?_, hlen, fun q hq => ?_, fun i hi => ?_, fun p q hpq hq => ?_, fun q hq => ?_⟩
  · have e1 := atL_mem (l := l) (q := p) (by omega)
    have e2 := atL_mem (l := l) (q := q) (by omega)
    rw [List.getElem?_eq_getElem (by omega)] at e1 e2
    injection e1 with e1
    injection e2 with e2
    exact List.pairwise_iff_getElem.1 hord.nd p q (by omega) (by omega) hpq (by rw [e1, e2]; exact he)
  · exact ((hord.mem _).1 (List.mem_of_getElem? (atL_mem (by omega)))).1
  · obtain ⟨q, hq⟩ := List.getElem?_of_mem ((hord.mem i).2 ⟨hi, by simp⟩)
    have hlt := (List.getElem?_eq_some_iff.1 hq).1
    rw [atL_mem hlt] at hq
    injection hq with hq
    exact ⟨q, by omega, hq⟩
  · have := List.pairwise_iff_getElem.1 hord.pw p q (by omega) (by omega) hpq
    have e1 := atL_mem (l := l) (q := p) (by omega)
    have e2 := atL_mem (l := l) (q := q) (by omega)
    rw [List.getElem?_eq_getElem (by omega)] at e1 e2
    injection e1 with e1
    injection e2 with e2
    rw [← e1, ← e2]; exact this
  · have := leg_at hord.leg q (by omega)
    rw [show nowV o (-1) = 0 from rfl, nwF_0] at this
    exact this
theorem nwS_src (o : Opl) (g : Nat → Nat) : ∀ q, nwS o g q = 0 ∨ ∃ p, p < q ∧ o.wr (g p) = true ∧ o.vl (g p) = nwS o g q
  | 0 => .inl rfl
  | q + 1 => by
    rw [nwS]
    split
    · rename_i h; exact .inr ⟨q, by omega, h, rfl⟩
    · rcases nwS_src o g q with h | ⟨p, h1, h2, h3⟩
      · exact .inl h
      · exact .inr ⟨p, by omega, h2, h3⟩
theorem Good.ended {o : Opl} {l : List Nat} (h : Good o l) {p q : Nat} (hpq : p < q) (hq : q < o.n) : o.bg (atL l p) ≤ o.en (atL l q) := by
  have := h.apart p q hpq hq
  unfold lineB at this
  rw [Bool.or_eq_false_iff] at this
  have := of_decide_eq_false this.1
  omega
/-- What a read has read was written, or is 0. -/
theorem Good.source {o : Opl} {l : List Nat} (h : Good o l) {i : Nat} (hi : i < o.n) (hr : o.wr i = false) (h0 : o.vl i ≠ 0) : ∃ j, j < o.n ∧ o.wr j = true ∧ o.vl j = o.vl i ∧ o.bg j ≤ o.en i := by
  obtain ⟨q, hq, rfl⟩ := h.has i hi
  have hv := (h.val q hq).resolve_left (by rw [hr]; simp)
  rcases nwS_src o (atL l) q with h1 | ⟨p, h1, h2, h3⟩
  · exact absurd (hv.trans h1) h0
  · exact ⟨atL l p, h.lt p (by omega), h2, h3.trans hv.symm, h.ended h1 hq⟩

theorem leg_mk {o : Opl} : ∀ {l : List Nat} {last : Int}, (∀ q, q < l.length → o.wr (atL l q) = true ∨ o.vl (atL l q) = nwF o (nowV o last) (atL l) q) → Leg o last l
  | [], _, _ => trivial
  | i :: l, last, h => by
    refine ⟨h 0 (by simp), leg_mk fun q hq => ?_⟩
    have := h (q + 1) (by simpa using hq)
    rw [nwF_cons o (nowV o last) i (atL l) (atL (i :: l)) rfl (fun _ => rfl), ← nowV_next] at this
    exact this
theorem nwS_congr {o : Opl} {g g' : Nat → Nat} : ∀ {q : Nat}, (∀ p, p < q → g p = g' p) → nwS o g q = nwS o g' q
  | 0, _ => rfl
  | q + 1, h => by rw [nwS, nwS, h q (by omega), nwS_congr fun p hp => h p (by omega)]

/-- One behind the other in time. -/
def aloneO (n : Nat) (wr : Nat → Bool) (vl : Nat → Int) : Opl := ⟨n, fun i => ((i % 2 : Nat) : Int), fun i => 3 * (i : Int), fun i => 3 * (i : Int) + 1, wr, vl⟩
theorem aloneO_ok {n : Nat} {wr : Nat → Bool} {vl : Nat → Int} (h : n ≤ 8) : (aloneO n wr vl).Ok :=
  ⟨h, fun i _ => by show 3 * (i : Int) < 3 * i + 1; omega, fun i j _ _ hne _ hx => by
    obtain ⟨h1, h2⟩ := hx
    have h1 : 3 * (j : Int) < 3 * i + 1 := h1
    have h2 : 3 * (i : Int) < 3 * j + 1 := h2
    omega⟩
theorem mono_id {g : Nat → Nat} {n : Nat} (hlt : ∀ q, q < n → g q < n) (hm : ∀ p q, p < q → q < n → g p < g q) : ∀ q, q < n → g q = q := by
  have low : ∀ q, q < n → q ≤ g q := by
    intro q
    induction q with
    | zero => intro _; omega
    | succ q ih =>
      intro hq
      have := ih (by omega)
      have := hm q (q + 1) (by omega) hq
      omega
  have high : ∀ d q, q + d + 1 = n → g q ≤ q := by
    intro d
    induction d with
    | zero => intro q hq; have := hlt q (by omega); omega
    | succ d ih =>
      intro q hq
      have h1 := ih (q + 1) (by omega)
      have h2 := hm q (q + 1) (by omega) (by omega)
      omega
  intro q hq
  have h1 := low q hq
  have h2 := high (n - 1 - q) q (by omega)
  omega
theorem atL_range {n q : Nat} (h : q < n) : atL (List.range n) q = q := by
  unfold atL
  rw [List.getD_eq_getElem?_getD, List.getElem?_range h]; rfl
/-- It could be so just if each read reads the last write. -/
theorem alone_iff {n : Nat} {wr : Nat → Bool} {vl : Nat → Int} (h8 : n ≤ 8) : Fin (aloneO n wr vl) (lineB (aloneO n wr vl)) 0 (-1) ↔ ∀ q, q < n → wr q = true ∨ vl q = nwS (aloneO n wr vl) id q := by
  constructor
  · rintro ⟨l, hl⟩ q hq
    have hg := run_good hl
    have hlt : ∀ q, q < n → atL l q < n := hg.lt
    have hid := mono_id hlt (fun p q hpq hq => by
      have h1 := hg.apart p q hpq hq
      have h2 := hg.nd p q hpq hq
      unfold lineB at h1
      rw [Bool.or_eq_false_iff] at h1
      have h3 := of_decide_eq_false h1.1
      have h3 : ¬ (3 * (atL l q : Int) + 1 < 3 * (atL l p : Int)) := h3
      omega)
    have := hg.val q hq
    rw [hid q hq, nwS_congr (g' := id) (fun p hp => hid p (by omega))] at this
    exact this
  · intro h
    refine ⟨List.range n, ord_run (lineB_self (aloneO_ok h8)) (Nat.two_pow_pos _) ⟨List.nodup_range, fun i => ?_, ?_, leg_mk fun q hq => ?_⟩⟩
    · rw [List.mem_range]; simp [aloneO]
    · refine List.pairwise_lt_range.imp fun {a b} hab => ?_
      unfold lineB
      rw [Bool.or_eq_false_iff]
      refine ⟨decide_eq_false ?_, ?_⟩
      · show ¬ (3 * (b : Int) + 1 < 3 * (a : Int)); omega
      · rw [Bool.and_eq_false_iff]; refine .inr (decide_eq_false ?_)
        show ¬ (3 * (b : Int) < 3 * (a : Int)); omega
    · have hq : q < n := by simpa using hq
      rw [atL_range hq, show nowV (aloneO n wr vl) (-1) = 0 from rfl, nwF_0, nwS_congr (g := atL (List.range n)) (g' := id) (fun p hp => atL_range (by omega))]
      exact h q hq
end Go.Proofs.Ythlpfacgdhdpiaa
