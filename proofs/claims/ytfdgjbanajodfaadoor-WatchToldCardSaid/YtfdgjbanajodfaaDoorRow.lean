/- From a law's contract ('it returns true; below the old heap's end nothing has turned') to the row's post; arguments opened to what the walks ask. -/
import Derived.Test.YtfdgjbanajodfaaDoorWords
import Derived.ProofKit
import Derived.Deep.Slices
import Derived.Deep.Fields
import Derived.ChangeSame
import Derived.SizedLaws
set_option linter.unusedVariables false
set_option linter.unusedSimpArgs false
namespace Go.Proofs.YtfdgjbanajodfaaDoor
open Go.ChangeShapes Go.WideShapes Go.ChangeAt Go.RowKit

theorem Tryd.own : ownKnob Tryd.prog.godebug = none := by kernel_rfl
theorem Tryd.laidOut : laidOutB Tryd.prog = true := by kernel_rfl

section
variable {H : Type} {enc : TypeId × Value → H} {P : Program}

theorem trodAll_stays (hl : laidOutB P = true) {W W' : World} (hb : Below W.heap.size W W') :
    ∀ (ts : List TypeId), (ts.all fun t => P.readableRec t && decide (t < P.types.size)) = true → ∀ (vs : List Value) (ds : List (DataW H)) (ps : List MemPlace),
      DataW.TrodAll enc P W 0 (fun _ => true) true ts vs ds ps → (∀ x ∈ ps, x.block < W.heap.size) → DataW.TrodAll enc P W' 0 (fun b => decide (b < W.heap.size)) true ts vs ds ps := by
  intro ts
  induction ts with
  | nil =>
    intro _ vs ds ps h _
    cases vs <;> cases ds <;> simp [DataW.TrodAll] at h ⊢
    exact h
  | cons t ts ih =>
    intro hts vs ds ps h hlt
    simp only [List.all_cons, Bool.and_eq_true, decide_eq_true_eq] at hts
    obtain ⟨v, vs', d, ds', p, q, rfl, rfl, rfl, h1, h2⟩ := trodAll_cons h
    exact ⟨p, q, Below.trod hl hts.1.1 hts.1.2 h1 hb (fun x hx => hlt x (List.mem_append.2 (.inl hx))), ih hts.2 _ _ _ h2 (fun x hx => hlt x (List.mem_append.2 (.inr hx))), rfl⟩

/-- The row's post of a law that has returned true and has turned nothing that was there. -/
theorem law_post {f : Func} {s : ChangeSpec} {apart fresh : Bool} {W W' : World} {args : Array Value} {ds gs : List (DataW H)} {before : List MemPlace} (hl : laidOutB P = true)
    (hts : (f.params.toList.all fun t => P.readableRec t && decide (t < P.types.size)) = true) {tb : TypeId} (hrt : f.resultTypes = #[tb]) (hbool : P.underlying tb = some .bool) (hnv : s.vars = [])
    (hW : DataW.Whole enc P f.params.toList s.vars apart W args.toList ds gs before)
    (hres : (s.fn H (ds ++ gs)).results = [.lit (.bool true)]) (hargs : (s.fn H (ds ++ gs)).args = ds) (hvars : (s.fn H (ds ++ gs)).vars = [])
    (hb : Below W.heap.size W W') : s.post enc P f apart fresh false false W args (.bool true) W' := by
  have hlt : ∀ p ∈ before, p.block < W.heap.size := fun p hp => hW.lt p hp
  have hW2 := hW
  obtain ⟨p, q, hA, hV, hpq, _, _⟩ := hW2
  rw [hnv] at hV
  have hq : q = [] := by
    cases gs with
    | nil => simpa [DataW.TrodVars] using hV
    | cons g gs => simp [DataW.TrodVars] at hV
  subst hq
  rw [List.append_nil] at hpq
  subst hpq
  refine ⟨ds, gs, before, [], before, [], hW, ?_, ?_, ?_, ?_, fun h => by cases h⟩
  · rw [hres, hrt]
    exact trodAll_mk1 (shut_bool hbool true)
  · rw [hargs]
    exact trodAll_stays hl hb _ hts _ _ _ hA hlt
  · rw [hvars, hnv]; rfl
  · exact hb.frame _
end

section
variable {H : Type} {enc : TypeId × Value → H} {P : Program} {w : World} {r : Reach} {b0 : Nat} {t e : TypeId} {v : Value} {d : DataW H} {p : List MemPlace}

/-- The datum of a slice of that capacity. -/
def SlCap (d : DataW H) (cap : Nat) : Prop := (d = .nil ∧ cap = 0) ∨ ∃ es sp, d = .slice es sp ∧ es.length + sp.length = cap
theorem slcap_bound {ts : List TypeId} {ds : List (DataW H)} (hsz : (DataW.weightsEach P ts ds).all (· ≤ reachBytes) = true) {j : Nat} {t e : TypeId} {d : DataW H} {cap b : Nat} (ht : ts[j]? = some t) (hd : ds[j]? = some d) (hu : P.underlying t = some (.slice e))
    (hb : P.bytesOf e = b) (h : SlCap d cap) : cap * b ≤ 140737488351232 := by
  rcases h with ⟨_, rfl⟩ | ⟨es, sp, rfl, rfl⟩
  · omega
  · have := sized_slice hsz ht hd hu
    rw [hb] at this
    exact this

theorem slice_shape (ht : P.underlying t = some (.slice e)) (hv : Value.okWide P w r b0 t v) : ∃ A n cap, v = .slice A n cap := okWide_slice ht hv

/-- A slice of numbers, nil or not. -/
theorem open_nums {k : IntKind} (ht : P.underlying t = some (.slice e)) (he : P.underlying e = some (.int k)) (hc : P.cellsOf e = 1) (hv : Value.okWide P w r b0 t v) (h : DataW.Trod enc P w 0 (fun _ => true) true t v d p) :
    ∃ (A : Option Addr) (n cap : Nat) (f : Nat → Int), v = .slice A n cap ∧ ((n ≤ cap ∧ cap ≤ maxLen) ∧ SlCap d cap) ∧ (∀ j, j < n → (Lit.int k (f j)).wf = true) ∧ Rd w w.heap.size A n (fun j => .int k (f j)) := by
  obtain ⟨A, n, cap, rfl⟩ := okWide_slice ht hv
  obtain ⟨fuel, hf⟩ := h
  rcases open_ints ht he hc hf with ⟨hcs, hd⟩ | ⟨a, len', cap', zs, hcs, _, hl, hm, hz, hd, hcell, hwz⟩
  · simp only [Value.cells] at hcs
    injection hcs with hcs _
    injection hcs with h1 h2 h3
    subst h1 h2 h3
    exact ⟨none, 0, 0, fun _ => 0, rfl, ⟨⟨Nat.le_refl _, by unfold maxLen; omega⟩, .inl ⟨congrArg Prod.fst hd, rfl⟩⟩, fun j hj => absurd hj (by omega), Rd.zero _ _ _ _⟩
  · simp only [Value.cells] at hcs
    injection hcs with hcs _
    injection hcs with h1 h2 h3
    subst h1 h2 h3
    simp only [if_true] at hz
    refine ⟨some a, n, cap, fun j => zs.getD j 0, rfl, ⟨⟨hl, hm⟩, .inr ⟨_, _, congrArg Prod.fst hd, by simp [lits]; omega⟩⟩, fun j hj => ?_, fun hn => ⟨a, rfl, ?_, fun j hj => hcell j (by omega)⟩⟩
    · have hjl : j < zs.length := by omega
      show (Lit.int k (zs.getD j 0)).wf = true
      rw [List.getD_eq_getElem?_getD, List.getElem?_eq_getElem hjl]
      exact hwz _ (List.getElem_mem hjl)
    · have := World.block_lt_of_cell? w (a.add 0) (hcell 0 (by omega))
      rwa [addr_block] at this
theorem open_words (ht : P.underlying t = some (.slice e)) (he : P.underlying e = some (.int .u32)) (hc : P.cellsOf e = 1) (hv : Value.okWide P w r b0 t v) (h : DataW.Trod enc P w 0 (fun _ => true) true t v d p) :
    ∃ (A : Option Addr) (n cap : Nat) (f : Nat → Nat), v = .slice A n cap ∧ ((n ≤ cap ∧ cap ≤ maxLen) ∧ SlCap d cap) ∧ (∀ j, j < n → f j < 4294967296) ∧ Rd w w.heap.size A n (fun j => .int .u32 (f j : Nat)) := by
  obtain ⟨A, n, cap, f, rfl, hm, hw, hr⟩ := open_nums ht he hc hv h
  have hb : ∀ j, j < n → 0 ≤ f j ∧ f j ≤ 4294967295 := fun j hj => by simpa [Lit.wf, IntKind.min, IntKind.max, IntKind.signed, IntKind.bits] using hw j hj
  refine ⟨A, n, cap, fun j => (f j).toNat, rfl, hm, fun j hj => by have := hb j hj; show (f j).toNat < 4294967296; omega, hr.congr fun j hj => ?_⟩
  have := hb j hj
  rw [Int.toNat_of_nonneg this.1]

def cellInt (w : World) (a : Addr) : Int := match w.cell? a with | some (.int _ x) => x | _ => 0

/-- A slice of structs whose fields are nf numbers of int's kind each: its cells are numbers, nf an element. -/
theorem open_recs {nf : Nat} {fs : Array Field} (ht : P.underlying t = some (.slice e)) (he : P.underlying e = some (.struct fs)) (hone : Deep.oneCellFields P fs = true) (hC : P.cellsOf e = fs.size) (hnf : fs.size = nf)
    (hint : ∀ (j : Nat) (f : Field), fs[j]? = some f → P.underlying f.type = some (.int .i64)) (hv : Value.okWide P w r b0 t v) (h : DataW.Trod enc P w 0 (fun _ => true) true t v d p) :
    ∃ (A : Option Addr) (n cap : Nat) (f : Nat → Int), v = .slice A n cap ∧ ((n ≤ cap ∧ cap ≤ maxLen) ∧ SlCap d cap) ∧ Rd w w.heap.size A (n * nf) (fun j => .int .i64 (f j)) := by
  subst hnf
  obtain ⟨A, n, cap, rfl⟩ := okWide_slice ht hv
  obtain ⟨fuel, hf⟩ := h
  rcases Deep.open_slice ht hf with ⟨hcs, hd⟩ | ⟨a, len, cap', m, nn, D, Pl, hcs, hb, hl, hm, hmm, hx, hi⟩
  · simp only [Value.cells] at hcs
    injection hcs with hcs _
    injection hcs with h1 h2 h3
    subst h1 h2 h3
    exact ⟨none, 0, 0, fun _ => 0, rfl, ⟨⟨Nat.le_refl _, by unfold maxLen; omega⟩, .inl ⟨congrArg Prod.fst hd, rfl⟩⟩, by rw [Nat.zero_mul]; exact Rd.zero _ _ _ _⟩
  · simp only [Value.cells] at hcs
    injection hcs with hcs _
    injection hcs with h1 h2 h3
    subst h1 h2 h3
    simp only [if_true] at hmm
    have key : ∀ i j, i < n → j < fs.size → ∃ x : Int, w.cell? (a.add (i * fs.size + j)) = some (.int .i64 x) := by
      intro i j hin hj
      obtain ⟨cs', hc, ht'⟩ := hi i (by omega)
      rw [hC] at hc
      obtain ⟨ys, n', hn', hy, hlen, hyl, hfl⟩ := DataW.trod_struct he ht'
      obtain ⟨_, hcl, hat⟩ := World.cells?_some hc
      have hfj : fs[j]? = some fs[j] := Array.getElem?_eq_getElem hj
      obtain ⟨ho, hk⟩ := Deep.hone_of hone j fs[j] hfj
      have hcell := hat j hj
      have h1 := hfl j fs[j] hfj
      rw [ho, hk] at h1
      have hjc : j < cs'.length := by omega
      have hone' : (cs'.drop j).take 1 = [cs'[j]] := by
        rw [List.drop_eq_getElem_cons hjc]
        rfl
      have hys : ys[j]? = some (ys[j]'(by omega)) := List.getElem?_eq_getElem (by omega)
      rw [hone', hys] at h1
      obtain ⟨x, hx1, _, _⟩ := DataW.trod_int (hint j fs[j] hfj) h1
      refine ⟨x, ?_⟩
      rw [← Deep.add_add, hcell, List.getElem?_eq_getElem hjc]
      simpa using hx1
    refine ⟨some a, n, cap, fun t => cellInt w (a.add t), rfl, ⟨⟨hl, hm⟩, .inr ⟨_, _, congrArg Prod.fst hx, by simp; omega⟩⟩, fun hn => ⟨a, rfl, ?_, fun t ht2 => ?_⟩⟩
    · have hpos : 0 < fs.size := Nat.pos_of_ne_zero fun h0 => by rw [h0] at hn; simp at hn
      have hn0 : 0 < n := Nat.pos_of_ne_zero fun h0 => by rw [h0] at hn; simp at hn
      obtain ⟨x, hx2⟩ := key 0 0 hn0 hpos
      have := World.block_lt_of_cell? w _ hx2
      rwa [addr_block] at this
    · have hpos : 0 < fs.size := Nat.pos_of_ne_zero fun h0 => by rw [h0] at ht2; simp at ht2
      have hq : t / fs.size < n := (Nat.div_lt_iff_lt_mul hpos).2 ht2
      obtain ⟨x, hx2⟩ := key (t / fs.size) (t % fs.size) hq (Nat.mod_lt _ hpos)
      rw [Nat.div_add_mod'] at hx2
      show _ = some (Value.int .i64 (cellInt w (a.add t)))
      rw [hx2, cellInt, hx2]
theorem recs3 {w : World} {B n : Nat} {A : Option Addr} {f : Nat → Int} (h : Rd w B A (n * 3) (fun j => .int .i64 (f j))) : Rd w B A (n * 3) (recF3 (fun i => f (i * 3)) (fun i => f (i * 3 + 1)) (fun i => f (i * 3 + 2))) := by
  refine h.congr fun j _ => ?_
  have hd : j = j / 3 * 3 + j % 3 := by omega
  rcases (by omega : j % 3 = 0 ∨ j % 3 = 1 ∨ j % 3 = 2) with h1 | h1 | h1
  · rw [h1, Nat.add_zero] at hd
    rw [hd, recF3_0]
  · rw [h1] at hd
    rw [hd, recF3_1]
  · rw [h1] at hd
    rw [hd, recF3_2]
theorem recs4 {w : World} {B n : Nat} {A : Option Addr} {f : Nat → Int} (h : Rd w B A (n * 4) (fun j => .int .i64 (f j))) : Rd w B A (n * 4) (recF4 (fun i => f (i * 4)) (fun i => f (i * 4 + 1)) (fun i => f (i * 4 + 2)) (fun i => f (i * 4 + 3))) := by
  refine h.congr fun j _ => ?_
  have hd : j = j / 4 * 4 + j % 4 := by omega
  rcases (by omega : j % 4 = 0 ∨ j % 4 = 1 ∨ j % 4 = 2 ∨ j % 4 = 3) with h1 | h1 | h1 | h1
  · rw [h1, Nat.add_zero] at hd
    rw [hd, recF4_0]
  · rw [h1] at hd
    rw [hd, recF4_1]
  · rw [h1] at hd
    rw [hd, recF4_2]
  · rw [h1] at hd
    rw [hd, recF4_3]
end
end Go.Proofs.YtfdgjbanajodfaaDoor
