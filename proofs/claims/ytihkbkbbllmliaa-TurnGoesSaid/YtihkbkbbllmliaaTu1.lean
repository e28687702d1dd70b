/- The walks of turn's 'send' and 'enter'. -/
import Derived.Test.YtihkbkbbllmliaaTuMath
import Derived.Test.YtihkbkbbllmliaaRowF
import Derived.Test.YtihkbkbbllmliaaPopM
import Derived.Test.YtihkbkbbllmliaaMix
import Derived.Test.YtihkbkbbllmliaaUpdE
import Derived.BigQuiet
import Derived.Deep.QuietTactic
import Derived.Deep.LoopGhost
set_option linter.unusedVariables false
set_option linter.unusedSimpArgs false
namespace Go.Proofs.Ytihkbkbbllmliaa
open Go.RowKit Go.Maps Go.MapKept

def vI (l : List Int) : List Value := l.map (Value.int .i64)
theorem vI_len (l : List Int) : (vI l).length = l.length := List.length_map ..
theorem vI_app (l : List Int) (x : Int) : vI l ++ [.int .i64 x] = vI (l ++ [x]) := by simp [vI]
def oneV (o : One) : Nat → Value
  | 0 => .int .i64 o.ck
  | 1 => .int .i64 o.ask
  | 2 => .bool o.inn
  | 3 => .int .u32 (o.hv : Nat)
  | _ => .int .u32 (o.wt : Nat)
abbrev WQ := Nat × Nat
def tyT : WQ → TypeId := fun _ => 3
def qsT (s : TS) : WQ → List Value := fun p => vI (s.way p)
abbrev hdT (g gl bm n : Nat) : LRow := blk g 44 2 (ofL [.slice (some ⟨gl, 0, none⟩) n n, .map (some bm)])
abbrev onesR (gl n : Nat) (s : TS) : LRow := ⟨some ⟨gl, 0, none⟩, 47, 5, n, n, rowF 5 oneV s.p⟩
abbrev rowsT (g gl bm n : Nat) (s : TS) (R : List LRow) : List LRow := hdT g gl bm n :: onesR gl n s :: R
abbrev mapsT (bm n : Nat) (f : WQ → Value) : List MRow := [⟨bm, wayE Try.prog 48 n f⟩]
abbrev LayT (g gl bm n : Nat) (R : List LRow) (w0 : World) (f : WQ → Value) (s : TS) (w : World) : Prop := LayQ w0 w (rowsT g gl bm n s R) (mapsT bm n f) tyT f (qsT s)
def ShortT (k : Nat) (s : TS) : Prop := ∀ p, (s.way p).length ≤ k
theorem zeroSl (u : World) : (zeroValue 36).run Try.prog u = .ok (.slice none 0 0) u := by kernel_rfl
theorem infoIntT : (Try.prog.info? 3).map (fun i => (i.zero, i.size, i.bytes)) = some (some (.int .i64 0), 1, 8) := by kernel_rfl
theorem qsT_way {s : TS} {p : WQ} {l : List Int} (a : WQ) : qput (qsT s) p (vI l) a = qsT { s with way := qput s.way p l } a := by
  show (if a = p then vI l else vI (s.way a)) = vI (if a = p then l else s.way a)
  split <;> rfl
section
variable {g gl bm n : Nat} {R : List LRow} {w0 w : World} {f : WQ → Value} {s : TS}
theorem tu_heads (h : LayT g gl bm n R w0 f s w) : w.cell? ⟨g, 0, none⟩ = some (.slice (some ⟨gl, 0, none⟩) n n) ∧ w.cell? ⟨g, 1, none⟩ = some (.map (some bm)) := ⟨h.lay.cellB 0 rfl 0 (by omega), h.lay.cellB 0 rfl 1 (by omega)⟩
theorem tu_cells (h : LayT g gl bm n R w0 f s w) {i : Nat} (hi : i < n) : w.cell? ⟨gl, i * 5, none⟩ = some (.int .i64 (s.p i).ck) ∧ w.cell? ⟨gl, i * 5 + 1, none⟩ = some (.int .i64 (s.p i).ask) ∧ w.cell? ⟨gl, i * 5 + 2, none⟩ = some (.bool (s.p i).inn) ∧
    w.cell? ⟨gl, i * 5 + 3, none⟩ = some (.int .u32 ((s.p i).hv : Nat)) ∧ w.cell? ⟨gl, i * 5 + 4, none⟩ = some (.int .u32 ((s.p i).wt : Nat)) := by
  have key : ∀ k, k < 5 → w.cell? ⟨gl, i * 5 + k, none⟩ = some (oneV (s.p i) k) := fun k hk => by
    rw [← rowF_at oneV s.p (i := i) hk]
    exact h.lay.cell 1 rfl (by show i * 5 + k < n * 5; omega)
  exact ⟨key 0 (by omega), key 1 (by omega), key 2 (by omega), key 3 (by omega), key 4 (by omega)⟩
theorem tu_set {i : Nat} (k : Nat) (o : One) {u : Value} (h : LayT g gl bm n R w0 f s w) (hi : i < n) (hk : k < 5) (hu : oneV o k = u) (ho : ∀ j, j < 5 → j ≠ k → oneV o j = oneV (s.p i) j) :
    LayT g gl bm n R w0 f { s with p := upd s.p i o } (w.setCell ⟨gl, i * 5 + k, none⟩ u) := by
  obtain ⟨h1, h2⟩ := rowF_set oneV s.p (i := i) hk hu ho
  exact LayQ.set 1 (rowF 5 oneV (upd s.p i o)) h rfl (by omega) h1 (fun j _ hj => h2 j hj)
theorem tu_sim {w' : World} (h : LayT g gl bm n R w0 f s w) (e : Sim w w') : LayT g gl bm n R w0 f s w' := LayQ.sim h e
theorem tu_look (p : WQ) (h : LayT g gl bm n R w0 f s w) (hn : n ≤ 6) (hp : p.1 < n ∧ p.2 < n) : (Instr.lookup 42 (.map (some bm)) (keyQ p) false).run Try.prog w = .ok (f p) w :=
  wq_look Try.underlying42 zeroSl 0 p h rfl hn hp
end
abbrev keyR (q f t : Nat) : LRow := blk q 48 2 (ofL [.int .i64 (f : Nat), .int .i64 (t : Nat)])
theorem full_cmp {n : Nat} (a : Nat) (hn : n ≤ 6) : ((a : Int) == (2 ^ n - 1) % 4294967296) = decide (a = 2 ^ n - 1) := by
  have h1 : 1 ≤ 2 ^ n := Nat.pow_pos (by omega)
  have h2 : 2 ^ n ≤ 64 := pow64 hn
  have e : ((2 : Int) ^ n - 1) % 4294967296 = ((2 ^ n - 1 : Nat) : Int) := by
    have : ((2 : Int) ^ n) = ((2 ^ n : Nat) : Int) := by simp
    rw [this]; omega
  rw [e, Bool.eq_iff_iff, beq_iff_eq, decide_eq_true_iff]
  omega
/-- What the loads of 'a.way[k] = append(a.way[k], x)' read. -/
def PutS (g bm q : Nat) (a b : Nat) (w : World) : Prop := w.cell? ⟨g, 1, none⟩ = some (.map (some bm)) ∧ w.cell? ⟨q, 0, none⟩ = some (.int .i64 (a : Nat)) ∧ w.cell? ⟨q, 1, none⟩ = some (.int .i64 (b : Nat))
section
variable (g gl bm n : Nat) (R : List LRow) (w0 : World)
set_option maxRecDepth 100000 in
set_option maxHeartbeats 1000000 in
theorem send_any (a b : Nat) (x : Int) (f : WQ → Value) (s : TS) (w : World) (hn : n ≤ 6) (ha : a < n) (hb : b < n) (hq : ShortT 1000 s) (h : LayT g gl bm n R w0 f s w) :
    Calls Try.prog 34 #[.pointer (some ⟨g, 0, none⟩), .int .i64 a, .int .i64 b, .int .i64 x] w fun e w' => e = .returned (.tuple #[]) ∧ ∃ f', LayT g gl bm n R w0 f' { s with way := qput s.way (a, b) (s.way (a, b) ++ [x]) } w' := by
  obtain ⟨iI, hiI, hzI0, hzI1, hzI2⟩ := info_parts infoIntT
  have H := Lib.hid h; clear h
  have HK := Lib.hid (H.out.newB [.int .i64 a, .int .i64 b] 48 2 rfl w.heap.size rfl).rot2
  go_enter Try.func34, Try.ntmps34
  go_wp2
  refine at_layQ (F := fun W' => Code.wp _ _ _ _ W') HK.out ?_
  intro W2 hW
  have HW2 : Hid (LayT g gl bm n (keyR w.heap.size a b :: R) w0 f s W2) := Lib.hid hW
  clear hW HK H
  generalize w.heap.size = qk at HW2 ⊢
  have hlb : bm < W2.heap.size := by obtain ⟨es, c, h2, _⟩ := HW2.out.mp 0 rfl; exact (Array.getElem?_eq_some_iff.1 h2).1
  have hS : ∀ (W' : World) (Q' : List MRow) (f' : WQ → Value) (q' : WQ → List Value), LayQ w0 W' (rowsT g gl bm n s (keyR qk a b :: R)) Q' tyT f' q' → PutS g bm qk a b W' :=
    fun W' Q' f' q' h => ⟨h.lay.cellB 0 rfl 1 (by omega), h.lay.cellB 2 rfl 0 (by omega), h.lay.cellB 2 rfl 1 (by omega)⟩
  have HS := Lib.hid hS
  clear hS
  have HS0 := Lib.hid (HS.out _ _ _ _ HW2.out.drew)
  obtain ⟨A, cap, hf, hcl, hcm⟩ := HW2.out.len (a, b)
  have hlen : (qsT s (a, b)).length = (s.way (a, b)).length := vI_len _
  rw [hlen] at hf hcl
  have hsh := hq (a, b)
  have HF := Lib.hid hf
  have HA := Lib.hid ((HW2.out.drew.alloc (.cells #[.int .i64 x] 3)))
  obtain ⟨st, es1, cc1, hme, hLx, -, -, hst⟩ := wq_entry Try.underlying42 zeroSl 0 (a, b) HA.out rfl hn ⟨ha, hb⟩
  simp only [hf] at hme
  have HX := Lib.hid hLx
  have HST := Lib.hid hst
  have HO : Hid (QSl (ChangeMaps.setBlock (W2.drew.alloc (.cells #[.int .i64 x] 3)) bm (.map es1 cc1)) w0.heap.size 3 (.slice A (s.way (a, b)).length cap) (vI (s.way (a, b)))) := Lib.hid (by
    have := HX.out.own (a, b)
    rw [HF.out] at this
    exact this)
  have HC : Hid ((ChangeMaps.setBlock (W2.drew.alloc (.cells #[.int .i64 x] 3)) bm (.map es1 cc1)).cell? ⟨W2.drew.heap.size, 0, none⟩ = some (.int .i64 x)) := Lib.hid ((cell_setBlock (by show W2.heap.size ≠ bm; omega)).trans (cell_one W2.drew _ _))
  clear hf hlen hcl hcm hLx hst
  refine wp_mix (PutS g bm qk a b) [0, 0, 0, 0, 0, 0, 1, 1, 2, 3, 2, 3] ?A1 (by kernel_rfl) (by decide) (by kernel_rfl) (by repeat' (first | (with_reducible apply tame_then) | (with_reducible apply tame_block) | (with_reducible apply tame_scope) | exact tame_gives | exact tame_body (fun _ _ h => ⟨_, h.1⟩))) HS0.out ?head ?tail
  case head =>
    intro W5 ⟨s0, s1, s2⟩
    simp only [List.map_cons, List.map_nil, Nat.reduceBEq, pick]
    go_wp2
    exact taken
  case tail =>
    simp only [List.map_cons, List.map_nil, Nat.reduceBEq, pick]
    refine chain_step ?_
    go_wp2
    refine holds (HS.out _ _ _ _ HA.out) ?_
    refine chain_step ?_
    refine wpList_mapEntry rfl (.tmp 15) (.tmp 16) _ rfl rfl rfl hme ?_
    refine holds (HS.out _ _ _ _ HX.out) ?_
    refine chain_end ⟨?A2, by kernel_rfl, ?head2, ?tail2⟩
    case head2 =>
      intro W6 h6
      clear h6
      go_wp2
      exact taken
    case tail2 =>
      refine chain_step ?_
      refine wpList_apQ rfl (.tmp 17) (.tmp 19) _ rfl 3 iI _ 8 Try.underlying36 hiI hzI0 hzI1 hzI2 rfl w0.heap.size rfl HO.out rfl HC.out rfl ((s.way (a, b)).length + 1) (by rw [vI_len]) (by rw [vI_len]; unfold maxLen; omega) (by rw [vI_len]; omega) HX.out.size ?_
      intro A2 cap2 w4 hq4 hg4 hb4
      have H4 := Lib.hid (HX.out.push (a, b) hq4 (by rw [HF.out, own_ab]; exact hg4) (by rw [HF.out, own_ab, own_ab]; exact hb4))
      rw [vI_app] at H4
      clear hq4 hg4 hb4 HO HA HX HC
      obtain ⟨es', c', hse, hL7⟩ := HST.out _ _ _ _ _ (.slice A2 ((s.way (a, b)).length + 1) cap2) H4.out rfl
      have HS7 := Lib.hid (HS.out _ _ _ _ hL7)
      have HL7 := Lib.hid (hL7.sameQ (q' := qsT { s with way := qput s.way (a, b) (s.way (a, b) ++ [x]) }) fun c => (qsT_way c).symm)
      have HS4 := Lib.hid (HS.out _ _ _ _ H4.out)
      clear hL7 HST H4
      refine holds HS4.out ?_
      refine chain_step ?_
      refine wpList_entryStore rfl (.tmp 15) (.tmp 22) (.tmp 21) _ rfl rfl rfl rfl hse fun u => ?_
      refine holds HS7.out ?_
      refine chain_end ?_
      go_wp2
      go_end0
      exact ⟨rfl, _, HL7.out.drop2⟩
set_option maxRecDepth 100000 in
set_option maxHeartbeats 1000000 in
theorem enter_any (i : Nat) (f : WQ → Value) (s : TS) (w : World) (hn : n ≤ 6) (hi : i < n) (hb : (s.p i).hv < 2 ^ n) (h : LayT g gl bm n R w0 f s w) :
    Calls Try.prog 35 #[.pointer (some ⟨g, 0, none⟩), .int .i64 i] w fun e w' => e = .returned (.tuple #[]) ∧ LayT g gl bm n R w0 f (enterS n i s) w' := by
  have H := Lib.hid h; clear h
  obtain ⟨r, hr⟩ : ∃ r, r = enterS n i s := ⟨_, rfl⟩
  rw [← hr]
  obtain ⟨c0, c1⟩ := tu_heads H.out
  obtain ⟨o0, o1, o2, o3, o4⟩ := tu_cells H.out hi
  have h32 : (s.p i).hv < 4294967296 := Nat.lt_of_lt_of_le hb (Nat.le_trans (Nat.pow_le_pow_right (by omega) (show n ≤ 32 by omega)) (by decide))
  have hor := or_pow (a := (s.p i).hv) (m := i) h32 (by omega)
  have hcm : ((((s.p i).hv ||| 2 ^ i : Nat) : Int) == (2 ^ n - 1) % 4294967296) = decide ((s.p i).hv ||| 2 ^ i = 2 ^ n - 1) := full_cmp _ hn
  obtain ⟨b, hfb⟩ : ∃ b, decide ((s.p i).hv ||| 2 ^ i = 2 ^ n - 1) = b := ⟨_, rfl⟩
  rw [hfb] at hcm
  have HFB := Lib.hid hfb
  clear hfb
  by_cases ha : 0 < (s.p i).ask
  · cases b
    · have HR := Lib.hid (hr.trans (if_neg (fun hh => by have := HFB.out; rw [decide_eq_false_iff_not] at this; exact this hh.2)))
      clear hr
      go_enter Try.func35, Try.ntmps35
      go_wp2
      refine wp_text_all (by kernel_rfl) (by kernel_rfl) (by kernel_rfl) (by repeat' (first | (with_reducible apply tame_then) | (with_reducible apply tame_block) | (with_reducible apply tame_scope) | exact tame_gives | exact tame_body (fun _ _ h => ⟨_, h.1⟩))) ?_
      go_wp2
      refine headed ?_
      go_wp2
      go_end0
      exact ⟨rfl, by rw [HR.out]; exact H.out.drew⟩
    · have HR := Lib.hid (hr.trans (if_pos ⟨ha, by have := HFB.out; rwa [decide_eq_true_iff] at this⟩))
      clear hr
      have f1 := H.out.lay.frz 1 rfl (by omega) (i * 5 + 1)
      have f2 := H.out.lay.frz 1 rfl (by omega) (i * 5 + 2)
      have H1 := Lib.hid (tu_set 2 { s.p i with inn := true } (u := .bool true) (tu_sim H.out (w' := w.drew) ⟨rfl, rfl, rfl, rfl⟩) hi (by omega) rfl (fun j hj hjk => by rcases (show j = 0 ∨ j = 1 ∨ j = 2 ∨ j = 3 ∨ j = 4 by omega) with rfl | rfl | rfl | rfl | rfl <;> first | rfl | exact absurd rfl hjk))
      have H2 := Lib.hid (tu_set 1 { s.p i with inn := true, ask := 0 } (u := .int .i64 0) H1.out hi (by omega) rfl (fun j hj hjk => by
        show _ = oneV (upd s.p i _ i) j
        rw [upd_same]
        rcases (show j = 0 ∨ j = 1 ∨ j = 2 ∨ j = 3 ∨ j = 4 by omega) with rfl | rfl | rfl | rfl | rfl <;> first | rfl | exact absurd rfl hjk))
      go_enter Try.func35, Try.ntmps35
      go_wp2
      refine wp_text_all (by kernel_rfl) (by kernel_rfl) (by kernel_rfl) (by repeat' (first | (with_reducible apply tame_then) | (with_reducible apply tame_block) | (with_reducible apply tame_scope) | exact tame_gives | exact tame_body (fun _ _ h => ⟨_, h.1⟩))) ?_
      go_wp2
      refine headed ?_
      go_wp2
      go_end0
      exact ⟨rfl, by
        rw [HR.out]
        have := H2.out
        simp only [upd_upd] at this
        exact this⟩
  · have HR := Lib.hid (hr.trans (if_neg (fun hh => ha hh.1)))
    clear hr
    go_enter Try.func35, Try.ntmps35
    go_wp2
    refine wp_text_all (by kernel_rfl) (by kernel_rfl) (by kernel_rfl) (by repeat' (first | (with_reducible apply tame_then) | (with_reducible apply tame_block) | (with_reducible apply tame_scope) | exact tame_gives | exact tame_body (fun _ _ h => ⟨_, h.1⟩))) ?_
    go_wp2
    refine headed ?_
    go_wp2
    go_end0
    exact ⟨rfl, by rw [HR.out]; exact H.out.drew⟩
end
end Go.Proofs.Ytihkbkbbllmliaa
