/- 'for part := range strings.SplitSeq(s, "/") { .. }', whose body goes on or returns. -/
import Derived.Test.YtfdgjbanajodfaaDoorTrIter
import Derived.Below
set_option linter.unusedVariables false
set_option linter.unusedSimpArgs false
namespace Go.Proofs.YtfdgjbanajodfaaDoor
open Go.RowKit Go.Shelf Go.Lib

/-- All lies as it lay but what lies at m or beyond, and block c. -/
structure But (m c : Nat) (W W' : World) : Prop where
  os : W'.os = W.os
  tape : W'.tape = W.tape
  output : W'.output = W.output
  size : W.heap.size ≤ W'.heap.size
  block : ∀ k, k < m → k ≠ c → W'.heap[k]? = W.heap[k]?
theorem But.putObj {m c : Nat} (W : World) {l : Nat} (o : Obj) (h : m ≤ l) : But m c W (W.putObj l o) := ⟨rfl, rfl, rfl, by simp, fun k hk _ => World.putObj_heap_other (by omega)⟩
theorem But.setCell {m c : Nat} (W : World) (v : Value) : But m c W (W.setCell ⟨c, 0, none⟩ v) := ⟨rfl, rfl, rfl, by simp [World.setCell], fun k _ hk => Below.heap_setCell W _ v k hk⟩
theorem But.alloc {m c : Nat} (W : World) (o : Obj) (h : m ≤ W.heap.size) : But m c W (W.alloc o) := ⟨rfl, rfl, rfl, by simp, fun k hk _ => Below.heap_alloc W o k (by omega)⟩
/-- Two blocks lie as they lay. -/
def Two (m : Nat) (W W' : World) : Prop := W'.heap[m]? = W.heap[m]? ∧ W'.heap[m + 1]? = W.heap[m + 1]?
theorem setCell_other_obj {w : World} {l c : Nat} {o : Obj} (h : w.heap[l]? = some o) (hne : l ≠ c) (v : Value) : (w.setCell ⟨c, 0, none⟩ v).heap[l]? = some o := (Below.heap_setCell w _ v l hne).trans h
set_option maxHeartbeats 1000000 in
theorem wpIn_split {n : Nat} {g : Operand} {t : Tmp} {assign body : Code} {Q : Exit → Act → World → Prop} {a : Act} {w : World} (cp cs cv : Nat) (s : List UInt8) (hs : s.length ≤ 140737488351232)
    (hg : a.eval g = .func (.func 44) #[] #[.pointer (some ⟨cp, 0, none⟩), .pointer (some ⟨cs, 0, none⟩), .pointer (some ⟨cv, 0, none⟩)])
    (hcp : w.cell? ⟨cp, 0, none⟩ = some (.string ⟨#[47]⟩)) (hcs : w.cell? ⟨cs, 0, none⟩ = some (.string (bs s))) (hcv : w.cell? ⟨cv, 0, none⟩ = some (.int .i64 0)) (hfz : w.frozen? ⟨cs, 0, none⟩ = false)
    (h1 : cs ≠ cp) (h2 : cs ≠ cv) (hn : cs < w.heap.size ∧ cp < w.heap.size ∧ cv < w.heap.size)
    (I : List (List UInt8) → World → Prop) (Ix : World → Prop) (hI : ∀ pre W W', I pre W → But w.heap.size cs W W' → I pre W') (hIx : ∀ W W', Ix W → But w.heap.size cs W W' → Ix W') (h0 : I [] w) (a₁ : List UInt8 → Act)
    (hassign : ∀ (l : Nat) (x : List UInt8) (W : World) (K : Act → World → Prop), K (a₁ x) W → assign.wpIn (Fence.wide.inRound l) (n - 1 - 1) Tryd.prog (Exit.then K (fun _ _ _ => False)) { tmps := a.tmps.setIfInBounds t (.string (bs x)), defers := [] } W)
    (hbody : ∀ (pre : List (List UInt8)) (x : List UInt8) (r : List (List UInt8)) (W : World), partsL s = pre ++ x :: r → I pre W → w.heap.size + 1 < W.heap.size →
      body.wpIn (Fence.wide.inRound (w.heap.size + 1)) (n - 1 - 1) Tryd.prog (fun e _ W' => match e with
        | .normal => Below w.heap.size W W' ∧ Two w.heap.size W W' ∧ I (pre ++ [x]) W'
        | .ret => Two w.heap.size W W' ∧ Ix W'
        | _ => False) (a₁ x) W)
    (hdone : ∀ (D : Nat) (W : World), I (partsL s) W → W.heap[D]? = some (.deferred (some [])) → D = w.heap.size → Q .normal { a with defers := { target := .collected D, args := #[] } :: a.defers } W)
    (hstop : ∀ (D : Nat) (W : World), Ix W → W.heap[D]? = some (.deferred (some [])) → D = w.heap.size → Code.ret.wpIn Fence.wide n Tryd.prog Q { a with defers := { target := .collected D, args := #[] } :: a.defers } W) :
    (Code.rangeFunc g #[t] assign body).wpIn Fence.wide n Tryd.prog Q a w := by
  refine wpIn_rangeFunc ?_
  intro fn hfn
  let rec_ : LoopState → Option Code → Loop := fun st pe => { state := st, pending := pe, fn, tmps := a.tmps, params := #[t], assign, body, defers := w.heap.size }
  obtain ⟨W1, hW1⟩ : ∃ W1, (w.alloc (.deferred (some []))).alloc (.loop (rec_ .ready none)) = W1 := ⟨_, rfl⟩
  have hL1 : W1.heap[w.heap.size + 1]? = some (.loop (rec_ .ready none)) := by
    rw [← hW1]
    have := World.alloc_heap_new (w.alloc (.deferred (some []))) (.loop (rec_ .ready none))
    rwa [World.size_alloc] at this
  have hK1 : W1.heap[w.heap.size]? = some (.deferred (some [])) := by
    rw [← hW1]; exact (Below.heap_alloc _ _ _ (by simp)).trans (World.alloc_heap_new w _)
  have hB1 : But w.heap.size cs w W1 := by
    rw [← hW1]
    exact ⟨rfl, rfl, rfl, by simp; omega, fun k hk _ => (Below.heap_alloc _ _ k (by simp; omega)).trans (Below.heap_alloc _ _ k hk)⟩
  have hBl : Below w.heap.size w W1 := by
    rw [← hW1]; exact ((Below.refl _ w).alloc (Nat.le_refl _) _).alloc (by simp) _
  refine ⟨w.heap.size + 1, [{ target := .collected w.heap.size, args := #[] }], W1, { target := .fn (.func 44) #[.pointer (some ⟨cp, 0, none⟩), .pointer (some ⟨cs, 0, none⟩), .pointer (some ⟨cv, 0, none⟩)], args := #[.func (.yield (w.heap.size + 1)) #[] #[]] }, W1, 44, #[.func (.yield (w.heap.size + 1)) #[] #[], .pointer (some ⟨cp, 0, none⟩), .pointer (some ⟨cs, 0, none⟩), .pointer (some ⟨cv, 0, none⟩)], W1, ?_, ?_, ?_, ?_, (fun h => by cases h), ?_⟩
  · rw [← hW1]; exact run_enterLoop_outer _ _ _ _ _
  · simp only [resolve, hg]
    simp [go_sem]
  · intro f' _; trivial
  · simp [invoke, go_sem]
  · refine (split_iter (n - 1) (w.heap.size + 1) cp cs cv w.heap.size s
      (fun pre W => I pre W ∧ W.heap[w.heap.size + 1]? = some (.loop (rec_ .ready none)) ∧ W.heap[w.heap.size]? = some (.deferred (some [])))
      (fun W => Ix W ∧ W.heap[w.heap.size + 1]? = some (.loop (rec_ .done (some .ret))) ∧ W.heap[w.heap.size]? = some (.deferred (some [])))
      W1 hs ((hBl.cell (p := ⟨cp, 0, none⟩) hn.2.1).trans hcp) ((hBl.cell (p := ⟨cs, 0, none⟩) hn.1).trans hcs) ((hBl.cell (p := ⟨cv, 0, none⟩) hn.2.2).trans hcv) ((hBl.frozen (p := ⟨cs, 0, none⟩) hn.1).trans hfz) h1 h2 hn
      (fun pre W v hJ => ⟨hI pre W _ hJ.1 (But.setCell W v), setCell_other_obj hJ.2.1 (by omega) v, setCell_other_obj hJ.2.2 (by omega) v⟩) ?_ ⟨hI [] w W1 h0 hB1, hL1, hK1⟩).mono ?_
    · rintro pre x r W hpx ⟨hi, hl, hk⟩
      have hlt : w.heap.size + 1 < W.heap.size := (Array.getElem?_eq_some_iff.1 hl).1
      have hy : (Instr.yield (w.heap.size + 1) #[.string (bs x)]).run Tryd.prog W = .ok (.round (w.heap.size + 1) fn (a.tmps.setIfInBounds t (.string (bs x))) assign body) W := by
        have := run_yield (P := Tryd.prog) (args := #[.string (bs x)]) hl rfl
        simpa [rec_] using this
      refine ⟨fn, _, assign, body, hy, roundIn_of_wpIn hfn ?_⟩
      refine hassign _ x W _ ?_
      refine ⟨_, run_beginRound hl rfl, ?_⟩
      have hl2 : (W.putObj (w.heap.size + 1) (.loop { rec_ .ready none with state := .busy })).heap[w.heap.size + 1]? = some (.loop { rec_ .ready none with state := .busy }) := World.putObj_heap_same hlt
      have hk2 : (W.putObj (w.heap.size + 1) (.loop { rec_ .ready none with state := .busy })).heap[w.heap.size]? = some (.deferred (some [])) := (World.putObj_heap_other (by omega)).trans hk
      refine wpIn_mono (hbody pre x r _ hpx (hI pre W _ hi (But.putObj W _ (by omega))) (by simp; exact hlt)) ?_
      rintro e a3 W3 hp
      have key : ∀ jump : Option Code, W3.heap[w.heap.size]? = some (.deferred (some [])) → W3.heap[w.heap.size + 1]? = some (.loop { rec_ .ready none with state := .busy }) →
          (Instr.endRound (w.heap.size + 1) jump).run Tryd.prog W3 = .ok (.bool jump.isNone) (W3.putObj (w.heap.size + 1) (.loop (rec_ (if jump.isNone then .ready else .done) jump))) ∧
          (W3.putObj (w.heap.size + 1) (.loop (rec_ (if jump.isNone then .ready else .done) jump))).heap[w.heap.size + 1]? = some (.loop (rec_ (if jump.isNone then .ready else .done) jump)) ∧
          (W3.putObj (w.heap.size + 1) (.loop (rec_ (if jump.isNone then .ready else .done) jump))).heap[w.heap.size]? = some (.deferred (some [])) := fun jump q1 q2 =>
        ⟨run_endRound (P := Tryd.prog) jump q2, World.putObj_heap_same (Array.getElem?_eq_some_iff.1 q2).1, (World.putObj_heap_other (by omega)).trans q1⟩
      cases e with
      | normal =>
        obtain ⟨p1, ⟨p2, p3⟩, p4⟩ := hp
        obtain ⟨q1, q2, q3⟩ := key none (p2.trans hk2) (p3.trans hl2)
        refine ⟨_, _, q1, .inl ⟨rfl, ⟨hI _ _ _ p4 (But.putObj W3 _ (by omega)), q2, q3⟩, ?_⟩⟩
        have b1 : Below w.heap.size W (W.putObj (w.heap.size + 1) (.loop { rec_ .ready none with state := .busy })) := ⟨rfl, rfl, rfl, by simp, fun k hk => World.putObj_heap_other (by omega)⟩
        have b2 : Below w.heap.size W3 (W3.putObj (w.heap.size + 1) (.loop (rec_ (if (none : Option Code).isNone then .ready else .done) none))) := ⟨rfl, rfl, rfl, by simp, fun k hk => World.putObj_heap_other (by omega)⟩
        exact (b1.trans p1).trans b2
      | ret =>
        obtain ⟨⟨p2, p3⟩, p4⟩ := hp
        obtain ⟨q1, q2, q3⟩ := key (some .ret) (p2.trans hk2) (p3.trans hl2)
        exact ⟨_, _, q1, .inr ⟨rfl, hIx _ _ p4 (But.putObj W3 _ (by omega)), q2, q3⟩⟩
      | exit id => exact hp.elim
      | goto t => exact hp.elim
      | panic ch => exact hp.elim
      | outgrown => exact hp.elim
    · rintro e W2 ⟨⟨v, rfl⟩, (⟨hi, hl, hk⟩ | ⟨hi, hl, hk⟩)⟩
      · exact ⟨none, _, run_endLoop (P := Tryd.prog) hl (by simp [rec_]), hdone _ _ (hI _ _ _ hi (But.putObj W2 _ (by omega))) ((World.putObj_heap_other (by omega)).trans hk) rfl⟩
      · exact ⟨some .ret, _, run_endLoop (P := Tryd.prog) hl (by simp [rec_]), hstop _ _ (hIx _ _ hi (But.putObj W2 _ (by omega))) ((World.putObj_heap_other (by omega)).trans hk) rfl⟩
end Go.Proofs.YtfdgjbanajodfaaDoor
