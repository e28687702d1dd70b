/- The walk of tick.Order and of the law TickOrder. -/
import Derived.Test.YthonnpimfidkdaaOrd1
import Derived.Test.YthonnpimfidkdaaVecS
import Derived.Test.YthonnpimfidkdaaNew
set_option linter.unusedVariables false
set_option linter.unusedSimpArgs false
namespace Go.Proofs.Ythonnpimfidkdaa
open Go.RowKit Go.Lib Go.Sort

/-- The events' numbers, as the sort sees them. -/
def finA (len : Nat) : Array (Fin len) := (List.finRange len).toArray
theorem finA_size (len : Nat) : (finA len).size = len := by simp [finA]
abbrev encF (len : Nat) : Fin len → Value := fun x => .int .i64 (x.val : Nat)
theorem heap_sortF {len : Nat} {w : World} {g n : Nat} {os : Array Obj} {cur : Array Value} {e : TypeId} {fr : Nat × Nat} [Inhabited (Fin len)] (d : Array (Fin len)) (hb : w.heap[g]? = some (.cells cur e fr)) :
    (sortWorld (encF len) w g 0 n d os).heap[g]? = some (.cells (putCells (encF len) 0 d cur) e fr) := by
  have hg : g < w.heap.size := (Array.getElem?_eq_some_iff.1 hb).1
  unfold sortWorld
  rw [heap_grow_old _ _ (by simpa using hg)]
  simp [putRow, mapBlock, Sort.ahead, Array.getElem?_modify, hb, onCells]
theorem grownBy_sortF {len : Nat} {w : World} {g n : Nat} {os : Array Obj} [Inhabited (Fin len)] (d : Array (Fin len)) : w.grownBy (sortWorld (encF len) w g 0 n d os) (some g) := by
  refine ⟨rfl, rfl, rfl, by simp [sortWorld], fun k hk hne => ?_⟩
  unfold sortWorld
  rw [heap_grow_old _ _ (by simpa using hk)]
  have : g ≠ k := fun e => hne (by rw [e])
  simp [putRow, mapBlock, Sort.ahead, Array.getElem?_modify, this]
/-- What Order gives: an order of the events. -/
structure OrdOut (E : Ev) (len : Nat) (u : Nat → Nat) : Prop where
  lt : ∀ t, t < len → u t < len
  inj : ∀ s t, s < t → t < len → u s ≠ u t
  sur : ∀ i, i < len → ∃ r, r < len ∧ u r = i
  up : ∀ i j, i < j → j < len → ¬ ordC E (u j) (u i) < 0
theorem ext_all {α : Type} (d : Array α) (n : Nat) (h : d.size = n) : d.extract 0 n = d := by subst h; simp
theorem ordOut_of {len : Nat} {E : Ev} [Inhabited (Fin len)] {d' : Array (Fin len)} (hp : PermIn 0 (finA len).size (finA len) d') (hs : SortedIn (ltOf fun a b : Fin len => ordC E a.val b.val) 0 (finA len).size d') : OrdOut E len (fun t => (d'[t]!).val) := by
  obtain ⟨h1, -, h3⟩ := hp
  rw [finA_size] at h1 h3 hs
  have h3 : d'.toList.Perm (List.finRange len) := by
    have e1 : d'.extract 0 len = d' := ext_all d' len h1
    have e2 : (finA len).extract 0 len = finA len := ext_all _ _ (finA_size len)
    rw [e1, e2] at h3
    have e3 : (finA len).toList = List.finRange len := rfl
    rw [e3] at h3
    exact h3
  have hnd : d'.toList.Nodup := h3.nodup_iff.2 (List.nodup_finRange len)
  have hat : ∀ t, (ht : t < len) → d'[t]! = d'.toList[t]'(by simp [h1]; exact ht) := fun t ht => by
    rw [getElem!_pos d' t (by omega)]; simp
  refine ⟨fun t ht => (d'[t]!).isLt, fun s t hst ht he => ?_, fun i hi => ?_, fun i j hij hj hc => ?_⟩
  · have he : d'[s]! = d'[t]! := Fin.ext he
    rw [hat s (by omega), hat t ht] at he
    exact (List.pairwise_iff_getElem.1 hnd s t (by simp [h1]; omega) (by simp [h1]; omega) hst) he
  · have hm : (⟨i, hi⟩ : Fin len) ∈ d'.toList := h3.mem_iff.2 (List.mem_finRange _)
    obtain ⟨r, hr, he⟩ := List.mem_iff_getElem.1 hm
    have hr' : r < len := by simpa [h1] using hr
    exact ⟨r, hr', by show (d'[r]!).val = i; rw [hat r hr', he]⟩
  · have := hs i j (Nat.zero_le _) hij hj
    unfold ltOf at this
    rw [decide_eq_false_iff_not] at this
    exact this hc
theorem Rd.sortF {len : Nat} {w : World} {g n B m : Nat} {os : Array Obj} {A : Option Addr} {F : Nat → Value} [Inhabited (Fin len)] (d : Array (Fin len)) (h : Rd w B A m F) (hB : B ≤ g) (hg : g < w.heap.size) : Rd (sortWorld (encF len) w g 0 n d os) B A m F :=
  h.grown (grownBy_sortF d) (by omega) (fun k hk => by injection hk with hk; omega)
abbrev ordR (A : Option Addr) (n cap : Nat) (u : Nat → Nat) : LRow := ⟨A, 3, 1, n, cap, fun t => .int .i64 (u t : Nat)⟩
theorem sort_ord {len : Nat} {E : Ev} {w0 w : World} {L : List LRow} {g cp bt bl gt : Nat} {A : Option Addr} {cap B : Nat} (hl : len ≤ 30) (hpos : 0 < len) (h : Lay w0 w L) (hk : L[0]? = some (ordR (some ⟨g, 0, none⟩) len cp (fun t => t)))
    (hB : B ≤ w0.heap.size) (hbt : w.cell? ⟨bt, 0, none⟩ = some (.slice (some ⟨gt, 0, none⟩) len len)) (hbl : w.cell? ⟨bl, 0, none⟩ = some (.slice A len cap)) (htk : ∀ i, i < len → w.cell? ⟨gt, i, none⟩ = some (.int .i64 (tickT E i : Nat))) (hev : Rd w B A (len * 3) (evF E)) (hn1 : bt ≠ g) (hn2 : bl ≠ g) (hn3 : gt ≠ g) :
    Calls Try.prog 12 #[.slice (some ⟨g, 0, none⟩) len cp, .func (.func 13) #[] #[.pointer (some ⟨bt, 0, none⟩), .pointer (some ⟨bl, 0, none⟩)]] w fun e w' => e = .returned (.tuple #[]) ∧ ∃ u, OrdOut E len u ∧ Lay w0 w' (L.set 0 (ordR (some ⟨g, 0, none⟩) len cp u)) := by
  have hInh : Inhabited (Fin len) := ⟨⟨0, hpos⟩⟩
  rcases h.own 0 _ hk with ⟨h1, -⟩ | ⟨g', cur, hv, h2, h3, h4, h5, h6, h7⟩
  · cases h1
  have hgg : g = g' := by
    have : (some (⟨g, 0, none⟩ : Addr)) = some ⟨g', 0, none⟩ := hv
    injection this with this; injection this
  subst hgg
  have h4 : len ≤ cp := h4
  have h6 : cur.size = cp * 1 := h6
  have h7 : ∀ j, j < len * 1 → cur[j]? = some (Value.int .i64 (j : Nat)) := h7
  have hg : g < w.heap.size := (Array.getElem?_eq_some_iff.1 h3).1
  have hgb : B ≤ g := Nat.le_trans hB h2
  have hH : Go.Sort.Holds (encF len) w g 0 (finA len) := by
    intro j hj
    rw [finA_size] at hj
    refine ⟨?_, by simp [World.frozen?, h3]⟩
    rw [Nat.zero_add, cell_of_row w g j cur _ (0, 0) h3, h7 j (by omega)]
    have : (finA len)[j]! = ⟨j, hj⟩ := by
      rw [getElem!_pos _ j (by rw [finA_size]; exact hj)]
      simp [finA]
    rw [this]
  have hcmp : CmpLays1 Try.prog 13 #[.pointer (some ⟨bt, 0, none⟩), .pointer (some ⟨bl, 0, none⟩)] (encF len) (fun a b : Fin len => ordC E a.val b.val) g 0 (finA len).size w := by
    intro m os dk _ x y
    have hgr := grownBy_sortF (w := w) (g := g) (n := m) (os := os) dk
    have hc : ∀ (q : Addr) v, q.block ≠ g → w.cell? q = some v → (sortWorld (encF len) w g 0 m dk os).cell? q = some v := fun q v hq hcv =>
      (World.cell?_of_block (hgr.block q.block (World.block_lt_of_cell? w _ hcv) (fun e => hq (by injection e)))).trans hcv
    exact ordF_any E len bt bl gt x.val y.val A cap _ hl x.isLt y.isLt ⟨hc _ _ hn1 hbt, hc _ _ hn2 hbl, fun i hi => hc _ _ hn3 (htk i hi), (Rd.sortF dk hev hgb hg).more (Nat.le_trans (by have := h.size; omega) hgr.size)⟩
  have hS := Try.slices_SortFunc (encF len) (fun _ => rfl) (fun a b : Fin len => ordC E a.val b.val) (ordC_swo E) 13 #[.pointer (some ⟨bt, 0, none⟩), .pointer (some ⟨bl, 0, none⟩)] g 0 cp (finA len) w (fun _ _ => rfl) hcmp hH hg (by rw [finA_size]; omega)
  rw [finA_size] at hS
  refine hS.mono ?_
  rintro e w' ⟨rfl, d', n, os, hp, hs, rfl⟩
  refine ⟨rfl, fun t => (d'[t]!).val, ordOut_of (by rw [finA_size]; exact hp) (by rw [finA_size]; exact hs), ?_⟩
  have hd : d'.size = len := by have := hp.1; rwa [finA_size] at this
  refine h.app 0 hk (.inr ⟨g, _, rfl, h2, heap_sortF _ h3, h4, h5, by simp [putCells, h6], fun j hj => ?_⟩) (grownBy_sortF _) (.inl rfl)
  have hj : j < len * 1 := hj
  show (putCells (encF len) 0 d' cur)[j]? = some (.int .i64 ((d'[j]!).val : Nat))
  simp [putCells, show j < cur.size by omega, show j < d'.size by omega]
abbrev bxL (b : Nat) (A : Option Addr) (len cap : Nat) : LRow := blk b 22 1 (ofL [.slice A len cap])
abbrev bxT (b g len : Nat) : LRow := blk b 23 1 (ofL [.slice (some ⟨g, 0, none⟩) len len])
abbrev tkR (g len : Nat) (E : Ev) : LRow := ⟨some ⟨g, 0, none⟩, 3, 1, len, len, fun i => .int .i64 (tickT E i : Nat)⟩
set_option maxRecDepth 100000 in
set_option maxHeartbeats 800000 in
theorem order_bad (n : Int) (A : Option Addr) (len cap B : Nat) (E : Ev) (w : World) (hlen : len ≤ maxLen) (hB : B ≤ w.heap.size) (hr : Rd w B A (len * 3) (evF E)) (hbad : runCode n E len ≠ 0) :
    Calls Try.prog 5 #[.int .i64 n, .slice A len cap] w fun e w' => e = .returned (.tuple #[.slice none 0 0, .int .i64 (runCode n E len)]) ∧ Go.Proofs.Ythonnpimfidkdaa.Sim w w ∧ Go.RowKit.Below w.heap.size w w' := by
  have HR := Lib.hid hr; clear hr
  have HM := Lib.hid hlen; clear hlen
  have hb' : (runCode n E len == 0) = false := beq_eq_false_iff_ne.2 hbad
  clear hbad
  go_enter Try.func5, Try.ntmps5
  go_wp2_with fail
  have HL0 := Lib.hid ((Lay.nil w).newB [.slice A len cap] 22 1 rfl w.heap.size rfl)
  refine at_lay (F := fun W' => Calls _ _ _ W' _) HL0.out ?_
  intro W hW
  have HW := Lib.hid hW
  clear hW HL0
  generalize w.heap.size = be at HW ⊢
  refine (check_any n A len cap w.heap.size E W HM.out HW.out.size ((HR.out.more hB).below HW.out.bel)).mono ?_
  rintro e w1 ⟨rfl, hb1⟩
  have HB1 := Lib.hid (HW.out.bel.trans (hb1.mono HW.out.size)); clear hb1
  go_wp2
  go_ret2
  exact ⟨rfl, ⟨rfl, rfl, rfl, rfl⟩, HB1.out⟩
set_option maxRecDepth 100000 in
set_option maxHeartbeats 1600000 in
theorem order_good (n : Nat) (A : Option Addr) (len cap B : Nat) (E : Ev) (w : World) (hlen : len ≤ maxLen) (hB : B ≤ w.heap.size) (hr : Rd w B A (len * 3) (evF E)) (hg : runCode n E len = 0) :
    Calls Try.prog 5 #[.int .i64 (n : Nat), .slice A len cap] w fun e w' => ∃ A' cp u, e = .returned (.tuple #[.slice A' len cp, .int .i64 0]) ∧ OrdOut E len u ∧ Lay w w' [ordR A' len cp u] := by
  have HR := Lib.hid (hr.more hB); clear hr
  have HM := Lib.hid hlen; clear hlen
  have HG := Lib.hid hg
  have h30 := (runCode_ok hg).1.2.2
  obtain ⟨iI, hiI, hzI0, hzI1, hzI2⟩ := info_parts infoIV
  clear hg
  go_enter Try.func5, Try.ntmps5
  go_wp2_with fail
  have HL0 := Lib.hid ((Lay.nil w).newB [.slice A len cap] 22 1 rfl w.heap.size rfl)
  refine at_lay (F := fun W' => Calls _ _ _ W' _) HL0.out ?_
  intro W hW
  have HW := Lib.hid hW
  clear hW HL0
  generalize w.heap.size = bl at HW ⊢
  refine (int_is_b (check_any n A len cap w.heap.size E W HM.out HW.out.size (HR.out.below HW.out.bel)) HG.out).mono ?_
  rintro e w1 ⟨rfl, hb1⟩
  have H1 := Lib.hid (HW.out.keep hb1); clear hb1 HW
  have c1 := H1.out.cellB 0 rfl 0 (by omega)
  simp only [ofL_0] at c1
  go_wp2_with fail
  clear c1
  refine (ticks_any n A len cap w.heap.size E w1 HG.out H1.out.size (HR.out.below H1.out.bel)).mono ?_
  rintro e w2 ⟨rfl, ho, hb⟩
  have H2 : Hid (Lay w w2 ([tkR (w1.heap.size + 2) len E] ++ [bxL bl A len cap])) := Lib.hid (by
    refine H1.out.rows hb _ (fun r hr => ?_) (by simp)
    simp only [List.mem_cons, List.not_mem_nil, or_false] at hr
    subst hr
    exact ⟨(ho.base_le H1.out.size).congr fun j hj => (by
      show Value.int .i64 (((if j < len then tickT E j else 0 : Nat)) : Int) = _
      rw [if_pos (by simpa using hj)]), w1.heap.size + 2, rfl, by omega⟩)
  clear ho hb H1
  generalize w1.heap.size + 2 = gt at H2 ⊢
  have H3 : Hid (∃ bt, bt = w2.heap.size ∧ Lay w (w2.alloc (.cells #[.slice (some ⟨gt, 0, none⟩) len len] 23)) [ordR none 0 0 (fun t => t), bxT bt gt len, tkR gt len E, bxL bl A len cap]) := Lib.hid ⟨_, rfl, (H2.out.newB [.slice (some ⟨gt, 0, none⟩) len len] 23 1 rfl _ rfl).lnil 3 1 (fun t => .int .i64 (t : Nat))⟩
  have c2 := H2.out.cellB 1 rfl 0 (by omega)
  have hb2 := (H2.out.at_ 1 rfl).2
  simp only [ofL_0] at c2
  go_wp2
  obtain ⟨bt, hbt, hL⟩ := H3.out
  rw [← hbt]
  have HL := Lib.hid hL
  clear hL H3 H2 hbt c2 hb2
  go_loopw [8, 21] (fun o i wr => ∃ (j : Nat) (A1 : Option Addr) (cp1 : Nat), j ≤ len ∧ i = .int .i64 (j : Nat) ∧ o = .slice A1 j cp1 ∧ Hid (Lay w wr [ordR A1 j cp1 (fun t => t), bxT bt gt len, tkR gt len E, bxL bl A len cap])) (fun _ i _ => len - (intOf i).toNat)
  case atStart => exact ⟨0, none, 0, by omega, rfl, rfl, HL⟩
  case round =>
    clear HL
    obtain ⟨j, A1, cp1, hj, rfl, rfl, HL⟩ := hrel
    by_cases hlt : j < len
    · have HNW : Hid (∀ t, t < 1 → (#[Value.int .i64 (j : Nat)])[t]? = some (Value.int .i64 ((j + t : Nat) : Int))) := Lib.hid fun t ht => by
        obtain rfl : t = 0 := by omega
        rfl
      go_wp2_with (first
        | (at_builtin; refine wpList_ap1 rfl (.tmp 24) (.tmp 26) _ rfl 3 iI _ 8 Try.underlying23 hiI hzI0 hzI1 hzI2 rfl w.heap.size (n := j) rfl ((HL.out.alloc _).own 0 _ rfl) (B := wr.heap.size + 1) (m := 1) (g := fun t => .int .i64 ((j + t : Nat) : Int)) rfl (cell_new wr _ _ _ wr.heap.size rfl HNW.out) (fun _ _ => rfl) (fun t => .int .i64 (t : Nat)) (fun _ _ => rfl) (fun _ _ => rfl) (j + 1) rfl (by unfold maxLen; omega) (by omega) (by have := HL.out.size; simp; omega) ?_
           intro A4 c4 w4 ho4 hg4 ha4
           have HL9 := Lib.hid ((HL.out.alloc (.cells #[.int .i64 (j : Nat)] 3)).app 0 rfl ho4 hg4 ha4)
           clear ho4 hg4 ha4)
        | fail)
      go_roundw
      case rel => exact ⟨j + 1, A4, c4, by omega, by go_num, rfl, Lib.hid HL9.out⟩
      case measure => simp [intOf]; omega
    · obtain rfl : len = j := by omega
      rcases Nat.eq_zero_or_pos len with h0 | hpos
      · subst h0
        go_wp2_with (first | (go_at_call 12; refine (Try.slices_SortFunc_none (α := Nat) A1 cp1 _ wr).mono ?_; rintro e w6 ⟨rfl, rfl⟩) | fail)
        go_ret2
        exact ⟨A1, cp1, fun t => t, rfl, ⟨fun t ht => by omega, fun s t hst ht => by omega, fun i hi => by omega, fun i j hij hj => by omega⟩, HL.out.perm [0] (by decide) rfl⟩
      · obtain ⟨g, rfl, -⟩ := (HL.out.own 0 _ rfl).pos (by show 0 < len; omega)
        have hS := sort_ord (E := E) (A := A) (cap := cap) (B := w.heap.size) h30 hpos HL.out rfl (Nat.le_refl _) (HL.out.cellB 1 rfl 0 (by omega)) (HL.out.cellB 3 rfl 0 (by omega)) (fun i hi => HL.out.cell1 2 rfl (j := i) hi) (HR.out.below HL.out.bel) (HL.out.ne_ 1 0 rfl rfl (by decide)) (HL.out.ne_ 3 0 rfl rfl (by decide)) (HL.out.ne_ 2 0 rfl rfl (by decide))
        have HS := Lib.hid hS
        clear hS
        go_wp2_with (first | (go_at_call 12; refine HS.out.mono ?_; rintro e w6 ⟨rfl, u, hu, h6⟩) | fail)
        go_ret2
        exact ⟨some ⟨g, 0, none⟩, cp1, u, rfl, hu, h6.perm [0] (by decide) rfl⟩
theorem tickOrder_bad (n : Int) (A : Option Addr) (len cap : Nat) (E : Ev) (w : World) (hlc : len ≤ cap) (hlen : len ≤ maxLen) (hr : Rd w w.heap.size A (len * 3) (evF E)) (hbad : runCode n E len ≠ 0) :
    Calls Try.prog 3 #[.int .i64 n, .slice A len cap] w fun e w' => e = .returned (.bool true) ∧ Go.RowKit.Below w.heap.size w w' := by
  have HR := Lib.hid hr; clear hr
  have HM := Lib.hid hlen; clear hlen
  have HLC := Lib.hid hlc; clear hlc
  have hb1 : (runCode n E len == 0) = false := beq_eq_false_iff_ne.2 hbad
  have HBB := Lib.hid hbad
  go_enter Try.func3, Try.ntmps3
  go_wp2_with fail
  refine (order_bad n A len cap _ E w HM.out (Nat.le_refl _) HR.out HBB.out).mono ?_
  rintro e w1 ⟨rfl, -, hb⟩
  have HB := Lib.hid hb
  clear hb
  have hb2 : (runCode n E len != 0) = true := by rw [bne, hb1]; rfl
  clear hbad
  go_wp2_with (first | (go_at_call 6; refine (ran_any n A len cap w.heap.size E w1 HLC.out HM.out HB.out.size (HR.out.below HB.out)).mono ?_; rintro e w3 ⟨rfl, hb3⟩; rw [hb1]; have HB3 := Lib.hid (HB.out.trans (hb3.mono HB.out.size)); clear hb3) | fail)
  go_ret
  exact ⟨by first | rfl | exact ret_bool hb2, HB3.out⟩
theorem tickOrder_good (n : Nat) (A : Option Addr) (len cap : Nat) (E : Ev) (w : World) (hlc : len ≤ cap) (hlen : len ≤ maxLen) (hr : Rd w w.heap.size A (len * 3) (evF E)) (hg : runCode n E len = 0) :
    Calls Try.prog 3 #[.int .i64 (n : Nat), .slice A len cap] w fun e w' => e = .returned (.bool true) ∧ Go.RowKit.Below w.heap.size w w' := by
  have HR := Lib.hid hr; clear hr
  have HM := Lib.hid hlen; clear hlen
  have HLC := Lib.hid hlc; clear hlc
  have HG := Lib.hid hg
  have hg1 : (runCode n E len == 0) = true := by rw [hg]; rfl
  have h30 := (runCode_ok hg).1.2.2
  clear hg
  go_enter Try.func3, Try.ntmps3
  go_wp2_with fail
  refine (order_good n A len cap _ E w HM.out (Nat.le_refl _) HR.out HG.out).mono ?_
  rintro e w1 ⟨A', cp, u, rfl, hu, hL⟩
  have HL := Lib.hid hL
  have HU := Lib.hid hu
  clear hL hu
  go_wp2_with (first | (go_at_call 6; refine (ran_any n A len cap w.heap.size E w1 HLC.out HM.out HL.out.size (HR.out.below HL.out.bel)).mono ?_; rintro e w3 ⟨rfl, hb3⟩; rw [hg1]; have HL3 := Lib.hid (HL.out.keep hb3); clear hb3) | (go_at_call 7; refine (again_is true n A A' len cap cp w3.heap.size E u w3 HM.out (Nat.le_refl _) ((HR.out.below HL3.out.bel).more HL3.out.size) (HL3.out.rd1 0 rfl) HG.out (fun t ht => ⟨HU.out.lt t ht, fun s hs => HU.out.inj s t hs ht⟩) (ord_again HG.out HU.out.lt HU.out.sur HU.out.up)).mono ?_; rintro e w4 ⟨rfl, hb4⟩; have HB4 := Lib.hid (HL3.out.bel.trans (hb4.mono HL3.out.size)); clear hb4) | fail)
  go_ret
  exact ⟨by first | rfl | exact ret_bool (by simp), HB4.out⟩
theorem tickOrder_all (n : Int) (A : Option Addr) (len cap : Nat) (E : Ev) (w : World) (_ : (Lit.int .i64 n).wf = true) (hmc : len ≤ cap ∧ cap ≤ maxLen) (hr : Rd w w.heap.size A (len * 3) (evF E)) :
    Calls Try.prog 3 #[.int .i64 n, .slice A len cap] w fun e w' => e = .returned (.bool true) ∧ Go.RowKit.Below w.heap.size w w' := by
  by_cases h : runCode n E len = 0
  · obtain ⟨k, rfl⟩ := Int.eq_ofNat_of_zero_le (by have := (runCode_ok h).1.1; omega : 0 ≤ n)
    exact tickOrder_good k A len cap E w hmc.1 (by omega) hr h
  · exact tickOrder_bad n A len cap E w hmc.1 (by omega) hr h
end Go.Proofs.Ythonnpimfidkdaa
