/- The walks of token's 'send' and 'give'. -/
import Derived.Test.YtihkbkbbllmliaaTkMath
import Derived.Test.YtihkbkbbllmliaaMix
import Derived.Test.YtihkbkbbllmliaaUpdE
import Derived.Test.YtihkbkbbllmliaaRange
import Derived.BigQuiet
import Derived.Deep.QuietTactic
import Derived.Deep.LoopGhost
set_option linter.unusedVariables false
set_option linter.unusedSimpArgs false
namespace Go.Proofs.Ytihkbkbbllmliaa
open Go.RowKit Go.Maps Go.MapKept

abbrev FK := Nat × Nat ⊕ Nat
def tyK : FK → TypeId
  | .inl _ => 4
  | .inr _ => 3
def vB (l : List Bool) : List Value := l.map Value.bool
theorem vB_len (l : List Bool) : (vB l).length = l.length := List.length_map ..
theorem vB_app (l : List Bool) (x : Bool) : vB l ++ [.bool x] = vB (l ++ [x]) := by simp [vB]
def vK (l : List Nat) : List Value := l.map fun x : Nat => Value.int .i64 (x : Nat)
theorem vK_len (l : List Nat) : (vK l).length = l.length := List.length_map ..
theorem vK_app (l : List Nat) (x : Nat) : vK l ++ [.int .i64 (x : Nat)] = vK (l ++ [x]) := by simp [vK]
def qsK (s : KS) : FK → List Value
  | .inl p => vB (s.way p)
  | .inr i => vK (s.row i)
abbrev hdK (g gp go bm n : Nat) (s : KS) : LRow := blk g 58 5 (ofL [.slice (some ⟨gp, 0, none⟩) n n, .slice (some ⟨go, 0, none⟩) n n, .int .i64 s.has, .int .i64 s.inn, .map (some bm)])
abbrev rowsK (g gp go bm n cp : Nat) (f : FK → Value) (s : KS) (R : List LRow) : List LRow :=
  blk g 58 5 (ofL [.slice (some ⟨gp, 0, none⟩) n cp, .slice (some ⟨go, 0, none⟩) n n, .int .i64 s.has, .int .i64 s.inn, .map (some bm)]) :: ⟨some ⟨gp, 0, none⟩, 3, 1, n, cp, fun i => .int .i64 (s.pt i : Nat)⟩ :: arr go 36 n (fun i => f (.inr i)) :: R
abbrev mapsK (bm n : Nat) (f : FK → Value) : List MRow := [⟨bm, wayE Try.prog 48 n (fun p => f (.inl p))⟩]
abbrev LayK (g gp go bm n cp : Nat) (R : List LRow) (w0 : World) (f : FK → Value) (s : KS) (w : World) : Prop := LayQ w0 w (rowsK g gp go bm n cp f s R) (mapsK bm n f) tyK f (qsK s)
def ShortK (k : Nat) (s : KS) : Prop := ∀ p, (s.way p).length ≤ k
theorem zeroSlB (u : World) : (zeroValue 59).run Try.prog u = .ok (.slice none 0 0) u := by kernel_rfl
theorem infoBoolK : (Try.prog.info? 4).map (fun i => (i.zero, i.size, i.bytes)) = some (some (.bool false), 1, 1) := by kernel_rfl
theorem fputK_inr (f : FK → Value) (p : Nat × Nat) (v : Value) : (fun i => fput f (.inl p) v (.inr i)) = fun i => f (.inr i) := funext fun i => fput_ne (by simp)
theorem fputK_inl2 (f : FK → Value) (i : Nat) (v : Value) : (fun p => fput f (.inr i) v (.inl p)) = fun p => f (.inl p) := funext fun p => fput_ne (by simp)
theorem fputK_inl (f : FK → Value) (p : Nat × Nat) (v : Value) : (fun q => fput f (.inl p) v (.inl q)) = fput (fun q => f (.inl q)) p v := funext fun q => by
  unfold fput
  by_cases e : q = p
  · subst e; simp
  · rw [if_neg e, if_neg (fun h => e (Sum.inl.inj h))]
theorem qsK_way {s : KS} {p : Nat × Nat} {l : List Bool} (a : FK) : qput (qsK s) (.inl p) (vB l) a = qsK { s with way := qput s.way p l } a := by
  rcases a with q | i
  · by_cases e : q = p
    · subst e
      rw [qput_same]
      show _ = vB (qput s.way q l q)
      rw [qput_same]
    · rw [qput_ne (fun h => e (Sum.inl.inj h))]
      show _ = vB (qput s.way p l q)
      rw [qput_ne e]; rfl
  · rw [qput_ne (by simp)]; rfl
theorem qsK_row {s : KS} {i : Nat} {l : List Nat} (a : FK) : qput (qsK s) (.inr i) (vK l) a = qsK { s with row := upd s.row i l } a := by
  rcases a with q | j
  · rw [qput_ne (by simp)]; rfl
  · by_cases e : j = i
    · subst e
      rw [qput_same]
      show _ = vK (upd s.row j l j)
      rw [upd_same]
    · rw [qput_ne (fun h => e (Sum.inr.inj h))]
      show _ = vK (upd s.row i l j)
      rw [upd_ne _ _ e]; rfl
section
variable {g gp go bm n cp : Nat} {R : List LRow} {w0 w : World} {f : FK → Value} {s : KS}
theorem tk_heads (h : LayK g gp go bm n cp R w0 f s w) : w.cell? ⟨g, 0, none⟩ = some (.slice (some ⟨gp, 0, none⟩) n cp) ∧ w.cell? ⟨g, 1, none⟩ = some (.slice (some ⟨go, 0, none⟩) n n) ∧ w.cell? ⟨g, 2, none⟩ = some (.int .i64 s.has) ∧ w.cell? ⟨g, 3, none⟩ = some (.int .i64 s.inn) ∧ w.cell? ⟨g, 4, none⟩ = some (.map (some bm)) :=
  ⟨h.lay.cellB 0 rfl 0 (by omega), h.lay.cellB 0 rfl 1 (by omega), h.lay.cellB 0 rfl 2 (by omega), h.lay.cellB 0 rfl 3 (by omega), h.lay.cellB 0 rfl 4 (by omega)⟩
theorem tk_sim {w' : World} (h : LayK g gp go bm n cp R w0 f s w) (e : Sim w w') : LayK g gp go bm n cp R w0 f s w' := LayQ.sim h e
theorem tk_look (p : Nat × Nat) (h : LayK g gp go bm n cp R w0 f s w) (hn : n ≤ 6) (hp : p.1 < n ∧ p.2 < n) : (Instr.lookup 56 (.map (some bm)) (keyQ p) false).run Try.prog w = .ok (f (.inl p)) w :=
  wq_look Try.underlying56 zeroSlB 0 p h rfl hn hp
theorem tk_fin (p : Nat × Nat) {v' : Value} {l : List Bool} {f0 : FK → Value}
    (h : LayQ w0 w (rowsK g gp go bm n cp f0 s R) [⟨bm, wayE Try.prog 48 n (fput (fun p => f0 (.inl p)) p v')⟩] tyK (fput f0 (.inl p) v') (qput (qsK s) (.inl p) (vB l))) :
    LayK g gp go bm n cp R w0 (fput f0 (.inl p) v') { s with way := qput s.way p l } w := by
  have h3 := h.sameQ (q' := qsK { s with way := qput s.way p l }) fun a => (qsK_way a).symm
  show LayQ w0 _ (rowsK g gp go bm n cp (fput f0 (.inl p) v') _ R) (mapsK bm n (fput f0 (.inl p) v')) tyK _ _
  unfold rowsK mapsK
  rw [fputK_inr, fputK_inl]
  exact h3
theorem tk_put (p : Nat × Nat) {v' : Value} {l : List Bool} {f0 : FK → Value} (h : LayQ w0 w (rowsK g gp go bm n cp f0 s R) (mapsK bm n f0) tyK (fput f0 (.inl p) v') (qput (qsK s) (.inl p) (vB l))) (hn : n ≤ 6) (hp : p.1 < n ∧ p.2 < n) :
    ∃ es c, (Instr.mapUpdate 56 (.map (some bm)) (keyQ p) v').run Try.prog w = .ok () (ChangeMaps.setBlock w bm (.map es c)) ∧ LayK g gp go bm n cp R w0 (fput f0 (.inl p) v') { s with way := qput s.way p l } (ChangeMaps.setBlock w bm (.map es c)) := by
  obtain ⟨es, c, h1, h2⟩ := wq_update Try.underlying56 0 p v' h rfl hn hp
  exact ⟨es, c, h1, tk_fin p h2⟩
/-- A row's slice has turned (push or pop), and is stored. -/
theorem tk_row {i : Nat} {v' : Value} {l : List Nat} {f0 : FK → Value} (h : LayQ w0 w (rowsK g gp go bm n cp f0 s R) (mapsK bm n f0) tyK (fput f0 (.inr i) v') (qput (qsK s) (.inr i) (vK l))) (hi : i < n) :
    LayK g gp go bm n cp R w0 (fput f0 (.inr i) v') { s with row := upd s.row i l } (w.setCell ⟨go, i, none⟩ v') := by
  have h1 := h.set 2 (fun j => fput f0 (.inr i) v' (.inr j)) rfl (show i < n * 1 by omega) (fput_same _ _ _) (fun j _ hj => fput_ne (fun e => hj (Sum.inr.inj e)))
  have h2 := h1.sameQ (q' := qsK { s with row := upd s.row i l }) fun a => (qsK_row a).symm
  show LayQ w0 _ _ (mapsK bm n (fput f0 (.inr i) v')) tyK _ _
  unfold mapsK
  rw [fputK_inl2]
  exact h2
theorem tk_has (x : Int) (h : LayK g gp go bm n cp R w0 f s w) : LayK g gp go bm n cp R w0 f { s with has := x } (w.setCell ⟨g, 2, none⟩ (.int .i64 x)) :=
  (h.fld 0 2 (.int .i64 x) rfl (by omega) (by simp)).sameQ fun a => by rcases a with a | a <;> rfl
theorem tk_inn (x : Int) (h : LayK g gp go bm n cp R w0 f s w) : LayK g gp go bm n cp R w0 f { s with inn := x } (w.setCell ⟨g, 3, none⟩ (.int .i64 x)) :=
  (h.fld 0 3 (.int .i64 x) rfl (by omega) (by simp)).sameQ fun a => by rcases a with a | a <;> rfl
theorem tk_pt {i : Nat} (x : Nat) (h : LayK g gp go bm n cp R w0 f s w) (hi : i < n) : LayK g gp go bm n cp R w0 f { s with pt := upd s.pt i x } (w.setCell ⟨gp, i, none⟩ (.int .i64 (x : Nat))) :=
  (h.upd 1 (mk := fun x : Nat => Value.int .i64 (x : Nat)) x rfl hi).sameQ fun a => by rcases a with a | a <;> rfl
end
abbrev keyR3 (q f t : Nat) : LRow := blk q 48 2 (ofL [.int .i64 (f : Nat), .int .i64 (t : Nat)])
def PutK (g bm q : Nat) (a b : Nat) (w : World) : Prop := w.cell? ⟨g, 4, none⟩ = some (.map (some bm)) ∧ w.cell? ⟨q, 0, none⟩ = some (.int .i64 (a : Nat)) ∧ w.cell? ⟨q, 1, none⟩ = some (.int .i64 (b : Nat))
section
variable (g gp go bm n cp : Nat) (R : List LRow) (w0 : World)
set_option maxRecDepth 100000 in
set_option maxHeartbeats 1000000 in
theorem sendK_any (a b : Nat) (x : Bool) (f : FK → Value) (s : KS) (w : World) (hn : n ≤ 6) (ha : a < n) (hb : b < n) (hq : ShortK 1000 s) (h : LayK g gp go bm n cp R w0 f s w) :
    Calls Try.prog 37 #[.pointer (some ⟨g, 0, none⟩), .int .i64 a, .int .i64 b, .bool x] w fun e w' => e = .returned (.tuple #[]) ∧ ∃ f', LayK g gp go bm n cp R w0 f' (sendK a b x s) w' := by
  obtain ⟨iI, hiI, hzI0, hzI1, hzI2⟩ := info_parts infoBoolK
  have H := Lib.hid h; clear h
  have HK := Lib.hid (H.out.newB [.int .i64 a, .int .i64 b] 48 2 rfl w.heap.size rfl).rot3
  go_enter Try.func37, Try.ntmps37
  go_wp2
  refine at_layQ (F := fun W' => Code.wp _ _ _ _ W') HK.out ?_
  intro W2 hW
  have HW2 : Hid (LayK g gp go bm n cp (keyR3 w.heap.size a b :: R) w0 f s W2) := Lib.hid hW
  clear hW HK H
  generalize w.heap.size = qk at HW2 ⊢
  have hlb : bm < W2.heap.size := by obtain ⟨es, c, h2, _⟩ := HW2.out.mp 0 rfl; exact (Array.getElem?_eq_some_iff.1 h2).1
  have hS : ∀ (W' : World) (Q' : List MRow) (f' : FK → Value) (q' : FK → List Value), LayQ w0 W' (rowsK g gp go bm n cp f s (keyR3 qk a b :: R)) Q' tyK f' q' → PutK g bm qk a b W' :=
    fun W' Q' f' q' h => ⟨h.lay.cellB 0 rfl 4 (by omega), h.lay.cellB 3 rfl 0 (by omega), h.lay.cellB 3 rfl 1 (by omega)⟩
  have HS := Lib.hid hS
  clear hS
  have HS0 := Lib.hid (HS.out _ _ _ _ HW2.out.drew)
  obtain ⟨A, cap, hf, hcl, hcm⟩ := HW2.out.len (.inl (a, b))
  have hlen : (qsK s (.inl (a, b))).length = (s.way (a, b)).length := vB_len _
  rw [hlen] at hf hcl
  have hsh := hq (a, b)
  have HF := Lib.hid hf
  have HA := Lib.hid ((HW2.out.drew.alloc (.cells #[.bool x] 4)))
  obtain ⟨st, es1, cc1, hme, hLx, -, -, hst⟩ := wq_entry Try.underlying56 zeroSlB 0 (a, b) HA.out rfl hn ⟨ha, hb⟩
  simp only [hf] at hme
  have HX := Lib.hid hLx
  have HST := Lib.hid hst
  have HO : Hid (QSl (ChangeMaps.setBlock (W2.drew.alloc (.cells #[.bool x] 4)) bm (.map es1 cc1)) w0.heap.size 4 (.slice A (s.way (a, b)).length cap) (vB (s.way (a, b)))) := Lib.hid (by
    have := HX.out.own (.inl (a, b))
    rw [HF.out] at this
    exact this)
  have HC : Hid ((ChangeMaps.setBlock (W2.drew.alloc (.cells #[.bool x] 4)) bm (.map es1 cc1)).cell? ⟨W2.drew.heap.size, 0, none⟩ = some (.bool x)) := Lib.hid ((cell_setBlock (by show W2.heap.size ≠ bm; omega)).trans (cell_one W2.drew _ _))
  clear hf hlen hcl hcm hLx hst
  refine wp_mix (PutK g bm qk a b) [0, 0, 0, 0, 0, 0, 1, 1, 2, 3, 2, 3] ?A1 (by kernel_rfl) (by decide) (by kernel_rfl) (by repeat' (first | (with_reducible apply tame_then) | (with_reducible apply tame_block) | (with_reducible apply tame_scope) | exact tame_gives | exact tame_body (fun _ _ h => ⟨_, h.1⟩))) HS0.out ?head ?tail
  case head =>
    intro W5 ⟨s0, s1, s2⟩
    simp only [List.map_cons, List.map_nil, Nat.reduceBEq, pick]
    go_wp2
    exact taken
  case tail =>
    simp only [List.map_cons, List.map_nil, Nat.reduceBEq, pick]
    refine chain_step ?_
    go_wp2
    refine holds (HS.out _ _ _ _ HA.out) ?_
    refine chain_step ?_
    refine wpList_mapEntry rfl (.tmp 15) (.tmp 16) _ rfl rfl rfl hme ?_
    refine holds (HS.out _ _ _ _ HX.out) ?_
    refine chain_end ⟨?A2, by kernel_rfl, ?head2, ?tail2⟩
    case head2 =>
      intro W6 h6
      clear h6
      go_wp2
      exact taken
    case tail2 =>
      refine chain_step ?_
      refine wpList_apQ rfl (.tmp 17) (.tmp 19) _ rfl 4 iI _ 1 Try.underlying59 hiI hzI0 hzI1 hzI2 rfl w0.heap.size rfl HO.out rfl HC.out rfl ((s.way (a, b)).length + 1) (by rw [vB_len]) (by rw [vB_len]; unfold maxLen; omega) (by rw [vB_len]; omega) HX.out.size ?_
      intro A2 cap2 w4 hq4 hg4 hb4
      have H4 := Lib.hid (HX.out.push (.inl (a, b)) hq4 (by rw [HF.out, own_ab]; exact hg4) (by rw [HF.out, own_ab, own_ab]; exact hb4))
      rw [vB_app] at H4
      clear hq4 hg4 hb4 HO HA HX HC
      obtain ⟨es', c', hse, hL7⟩ := HST.out _ _ _ _ _ (.slice A2 ((s.way (a, b)).length + 1) cap2) H4.out rfl
      have HS7 := Lib.hid (HS.out _ _ _ _ hL7)
      have HL7 := Lib.hid (tk_fin (a, b) hL7)
      have HS4 := Lib.hid (HS.out _ _ _ _ H4.out)
      clear hL7 HST H4
      refine holds HS4.out ?_
      refine chain_step ?_
      refine wpList_entryStore rfl (.tmp 15) (.tmp 22) (.tmp 21) _ rfl rfl rfl rfl hse fun u => ?_
      refine holds HS7.out ?_
      refine chain_end ?_
      go_wp2
      go_end0
      exact ⟨rfl, _, HL7.out.drop3⟩
end
end Go.Proofs.Ytihkbkbbllmliaa
