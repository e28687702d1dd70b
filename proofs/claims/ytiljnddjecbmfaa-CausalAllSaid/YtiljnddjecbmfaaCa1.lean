/- causal's layout; the walk of 'tell'. -/
import Derived.Test.YtiljnddjecbmfaaCaMath
import Derived.Test.YtiljnddjecbmfaaLayQ
import Derived.Test.YtiljnddjecbmfaaPhase
import Derived.Test.YtiljnddjecbmfaaMix
import Derived.Test.YtiljnddjecbmfaaUpdE
import Derived.BigQuiet
import Derived.Deep.QuietTactic
import Derived.Deep.LoopGhost
set_option linter.unusedVariables false
set_option linter.unusedSimpArgs false
namespace Go.Proofs.Ytiljnddjecbmfaa
open Go.RowKit Go.Maps Go.MapKept

abbrev FC := (Nat ⊕ Nat) ⊕ Nat
def tyC : FC → TypeId := fun _ => 3
def vK (l : List Nat) : List Value := l.map fun x : Nat => Value.int .i64 (x : Nat)
theorem vK_len (l : List Nat) : (vK l).length = l.length := List.length_map ..
theorem vK_app (l : List Nat) (x : Nat) : vK l ++ [.int .i64 (x : Nat)] = vK (l ++ [x]) := by simp [vK]
theorem vK_at {l : List Nat} {j : Nat} (h : j < l.length) : (vK l)[j]? = some (.int .i64 (l[j]?.getD 0 : Nat)) := by
  simp [vK, List.getElem?_eq_getElem h]
/-- The first n of a vector. -/
def vec (n : Nat) (c : Nat → Nat) : List Value := vK ((List.range n).map c)
theorem vec_len (n : Nat) (c : Nat → Nat) : (vec n c).length = n := by unfold vec; rw [vK_len]; simp
theorem vec_at {n j : Nat} (c : Nat → Nat) (h : j < n) : (vec n c)[j]? = some (.int .i64 (c j : Nat)) := by
  unfold vec vK
  rw [List.getElem?_map, List.getElem?_map, List.getElem?_range h]; rfl
theorem vec_set {n j : Nat} (c : Nat → Nat) (x : Nat) : (vec n c).set j (.int .i64 (x : Nat)) = vec n (upd c j x) := by
  apply List.ext_getElem?
  intro i
  by_cases hi : i < n
  · rw [vec_at _ hi, List.getElem?_set, vec_at _ hi, vec_len]
    by_cases e : j = i
    · subst e; rw [if_pos rfl, if_pos hi, upd_same]
    · rw [if_neg e, upd_ne _ _ (fun h => e h.symm)]
  · rw [List.getElem?_eq_none (by rw [List.length_set, vec_len]; omega), List.getElem?_eq_none (by rw [vec_len]; omega)]
def qsC (n : Nat) (s : CaS) : FC → List Value
  | .inl (.inl i) => vK (s.told i)
  | .inl (.inr i) => if i < n then vec n (s.clock i) else []
  | .inr k => if k < s.m then vec n (s.ahead k) else []
theorem keyedC : Keyed Try.prog 3 := int_keyed Try.underlying3
def keyN (a : Nat) : Value := .int .i64 (a : Nat)
theorem keyN_inj (x y : Nat) (h : keyN x = keyN y) : x = y := by
  unfold keyN at h
  injection h with _ h
  exact Int.ofNat_inj.1 h
theorem wf_keyN {x : Nat} (hx : x < 1000) : (Lit.int .i64 (x : Nat)).wf = true := by
  simp [Lit.wf, IntKind.min, IntKind.max, IntKind.signed, IntKind.bits]; omega
/-- What has come, as a map. -/
def comeE (c : Nat → Bool) (es : Array MapEntry) (cl : Nat) : Prop := ∃ m, EMap Try.prog 3 (.bool false) keyN (fun _ => True) m (fun a => .bool (c a)) es cl
def msgF (f : FC → Value) (s : CaS) (j : Nat) : Value := if j % 2 = 0 then .int .i64 (s.by_ (j / 2) : Nat) else f (.inr (j / 2))
abbrev rowsC (g A cl gt gc cc gm cm n : Nat) (AL : Option Addr) (bc : Nat → Nat) (f : FC → Value) (s : CaS) (R : List LRow) : List LRow :=
  blk g 46 5 (ofL [.int .i64 n, .slice AL s.m cl, .slice (some ⟨gt, 0, none⟩) n n, .slice (some ⟨gc, 0, none⟩) n cc, .slice (some ⟨gm, 0, none⟩) n cm]) ::
  ⟨AL, 53, 2, s.m, cl, msgF f s⟩ :: arr gt 32 n (fun i => f (.inl (.inl i))) :: ⟨some ⟨gc, 0, none⟩, 32, 1, n, cc, fun i => f (.inl (.inr i))⟩ :: ⟨some ⟨gm, 0, none⟩, 47, 1, n, cm, fun i => .map (some (bc i))⟩ :: R
abbrev mapsC (n : Nat) (bc : Nat → Nat) (s : CaS) : List MRow := (List.range n).map fun i => ⟨bc i, comeE (s.come i)⟩
abbrev LayC (g cl gt gc cc gm cm n : Nat) (AL : Option Addr) (bc : Nat → Nat) (R : List LRow) (w0 : World) (f : FC → Value) (s : CaS) (w : World) : Prop := LayQ w0 w (rowsC g 0 cl gt gc cc gm cm n AL bc f s R) (mapsC n bc s) tyC f (qsC n s)
theorem mapsC_at {n i : Nat} {bc : Nat → Nat} {s : CaS} (h : i < n) : (mapsC n bc s)[i]? = some ⟨bc i, comeE (s.come i)⟩ := by
  rw [List.getElem?_map, List.getElem?_range h]; rfl
theorem infoIntC : (Try.prog.info? 3).map (fun i => (i.zero, i.size, i.bytes)) = some (some (.int .i64 0), 1, 8) := by kernel_rfl
theorem zeroBoolC (u : World) : (zeroValue 4).run Try.prog u = .ok (.bool false) u := by kernel_rfl
section
variable {g cl gt gc cc gm cm n : Nat} {AL : Option Addr} {bc : Nat → Nat} {R : List LRow} {w0 w : World} {f : FC → Value} {s : CaS}
theorem ca_heads (h : LayC g cl gt gc cc gm cm n AL bc R w0 f s w) : w.cell? ⟨g, 0, none⟩ = some (.int .i64 n) ∧ w.cell? ⟨g, 1, none⟩ = some (.slice AL s.m cl) ∧ w.cell? ⟨g, 2, none⟩ = some (.slice (some ⟨gt, 0, none⟩) n n) ∧ w.cell? ⟨g, 3, none⟩ = some (.slice (some ⟨gc, 0, none⟩) n cc) ∧ w.cell? ⟨g, 4, none⟩ = some (.slice (some ⟨gm, 0, none⟩) n cm) :=
  ⟨h.lay.cellB 0 rfl 0 (by omega), h.lay.cellB 0 rfl 1 (by omega), h.lay.cellB 0 rfl 2 (by omega), h.lay.cellB 0 rfl 3 (by omega), h.lay.cellB 0 rfl 4 (by omega)⟩
theorem ca_sim {w' : World} (h : LayC g cl gt gc cc gm cm n AL bc R w0 f s w) (e : Sim w w') : LayC g cl gt gc cc gm cm n AL bc R w0 f s w' := LayQ.sim h e
/-- What 'told' holds of i. -/
theorem ca_told (h : LayC g cl gt gc cc gm cm n AL bc R w0 f s w) {i : Nat} (hi : i < n) : ∃ A cap, f (.inl (.inl i)) = .slice A (s.told i).length cap ∧ (s.told i).length ≤ cap ∧ cap ≤ maxLen ∧ w.cell? ⟨gt, i, none⟩ = some (.slice A (s.told i).length cap) := by
  obtain ⟨A, cap, hf, h1, h2⟩ := h.len (.inl (.inl i))
  have hl : (qsC n s (.inl (.inl i))).length = (s.told i).length := vK_len _
  rw [hl] at hf h1
  exact ⟨A, cap, hf, h1, h2, by rw [← hf]; exact h.lay.cell1 2 rfl hi⟩
/-- .. 'clock'. -/
theorem ca_clock (h : LayC g cl gt gc cc gm cm n AL bc R w0 f s w) {i : Nat} (hi : i < n) (hn : 1 ≤ n) : ∃ b off cap, f (.inl (.inr i)) = .slice (some ⟨b, off, none⟩) n cap ∧ n ≤ cap ∧ cap ≤ maxLen ∧ w.cell? ⟨gc, i, none⟩ = some (.slice (some ⟨b, off, none⟩) n cap) ∧ (∀ o, o < n → w.cell? ⟨b, off + o, none⟩ = some (.int .i64 (s.clock i o : Nat))) ∧ w.frozen? ⟨b, off, none⟩ = false ∧ ∀ o, w.frozen? ⟨b, o, none⟩ = false := by
  obtain ⟨A, cap, hf, h1, h2⟩ := h.len (.inl (.inr i))
  have hq : qsC n s (.inl (.inr i)) = vec n (s.clock i) := if_pos hi
  rw [hq, vec_len] at hf h1
  have ho := h.own (.inl (.inr i))
  rw [hf, hq] at ho
  obtain ⟨b, off, rfl, -, -⟩ := ho.cell (vec_at (s.clock i) (show 0 < n by omega))
  refine ⟨b, off, cap, hf, h1, h2, by rw [← hf]; exact h.lay.cell1 3 rfl hi, fun o hoo => ?_, ho.frz off, fun o => ho.frz o⟩
  obtain ⟨b', off', e, -, hc⟩ := ho.cell (vec_at (s.clock i) hoo)
  injection e with e
  injection e with e1 e2
  subst e1; subst e2
  exact hc
/-- .. 'ahead'. -/
theorem ca_ahead (h : LayC g cl gt gc cc gm cm n AL bc R w0 f s w) {k : Nat} (hk : k < s.m) (hn : 1 ≤ n) : ∃ b off cap, f (.inr k) = .slice (some ⟨b, off, none⟩) n cap ∧ n ≤ cap ∧ cap ≤ maxLen ∧ ∀ o, o < n → w.cell? ⟨b, off + o, none⟩ = some (.int .i64 (s.ahead k o : Nat)) := by
  obtain ⟨A, cap, hf, h1, h2⟩ := h.len (.inr k)
  have hq : qsC n s (.inr k) = vec n (s.ahead k) := if_pos hk
  rw [hq, vec_len] at hf h1
  have ho := h.own (.inr k)
  rw [hf, hq] at ho
  obtain ⟨b, off, rfl, -, -⟩ := ho.cell (vec_at (s.ahead k) (show 0 < n by omega))
  refine ⟨b, off, cap, hf, h1, h2, fun o hoo => ?_⟩
  obtain ⟨b', off', e, -, hc⟩ := ho.cell (vec_at (s.ahead k) hoo)
  injection e with e
  injection e with e1 e2
  subst e1; subst e2
  exact hc
/-- A message's cells. -/
theorem ca_msg (h : LayC g cl gt gc cc gm cm n AL bc R w0 f s w) {k : Nat} (hk : k < s.m) : ∃ b, AL = some ⟨b, 0, none⟩ ∧ w.cell? ⟨b, k * 2, none⟩ = some (.int .i64 (s.by_ k : Nat)) ∧ w.cell? ⟨b, k * 2 + 1, none⟩ = some (f (.inr k)) := by
  obtain ⟨b, h1, -, -, h4, -⟩ := (h.lay.own 1 _ rfl).pos (show 0 < s.m by omega)
  refine ⟨b, h1, ?_, ?_⟩
  · have := h4 (k * 2) (show k * 2 < s.m * 2 by omega)
    rw [this]
    show some (msgF f s (k * 2)) = _
    unfold msgF
    rw [if_pos (by omega), show k * 2 / 2 = k by omega]
  · have := h4 (k * 2 + 1) (show k * 2 + 1 < s.m * 2 by omega)
    rw [this]
    show some (msgF f s (k * 2 + 1)) = _
    unfold msgF
    rw [if_neg (by omega), show (k * 2 + 1) / 2 = k by omega]
/-- What has come to i. -/
theorem ca_look (h : LayC g cl gt gc cc gm cm n AL bc R w0 f s w) {i k : Nat} (hi : i < n) (hk : k < 1000) : (Instr.lookup 47 (.map (some (bc i))) (.int .i64 (k : Nat)) false).run Try.prog w = .ok (.bool (s.come i k)) w := by
  obtain ⟨es, c, h1, m, h2⟩ := h.mp i (mapsC_at hi)
  exact h2.look h1 keyedC Try.underlying47 (zeroBoolC w) k (keyOf_int_mk Try.underlying3 (wf_keyN hk))
theorem qsC_told {i : Nat} {l : List Nat} (a : FC) : qput (qsC n s) (.inl (.inl i)) (vK l) a = qsC n { s with told := upd s.told i l } a := by
  rcases a with (j | j) | j
  · by_cases e : j = i
    · subst e
      rw [qput_same]
      show _ = vK (upd s.told j l j)
      rw [upd_same]
    · rw [qput_ne (fun h => e (Sum.inl.inj (Sum.inl.inj h)))]
      show _ = vK (upd s.told i l j)
      rw [upd_ne _ _ e]; rfl
  · rw [qput_ne (by simp)]; rfl
  · rw [qput_ne (by simp)]; rfl
theorem qsC_clock {i o x : Nat} (hi : i < n) (a : FC) : qput (qsC n s) (.inl (.inr i)) ((qsC n s (.inl (.inr i))).set o (.int .i64 (x : Nat))) a = qsC n { s with clock := upd s.clock i (upd (s.clock i) o x) } a := by
  rcases a with (j | j) | j
  · rw [qput_ne (by simp)]; rfl
  · by_cases e : j = i
    · subst e
      rw [qput_same]
      show (if j < n then vec n (s.clock j) else []).set o _ = if j < n then vec n (upd s.clock j (upd (s.clock j) o x) j) else []
      rw [if_pos hi, if_pos hi, upd_same, vec_set]
    · rw [qput_ne (fun h => e (Sum.inr.inj (Sum.inl.inj h)))]
      show _ = if j < n then vec n (upd s.clock i _ j) else []
      rw [upd_ne _ _ e]; rfl
  · rw [qput_ne (by simp)]; rfl
theorem fput_told {i : Nat} {v : Value} : (fun j => fput f (.inl (.inl i)) v (.inl (.inr j))) = fun j => f (.inl (.inr j)) := funext fun j => fput_ne (by simp)
theorem msgF_told {i : Nat} {v : Value} : msgF (fput f (.inl (.inl i)) v) s = msgF f s := funext fun j => by
  unfold msgF
  rw [fput_ne (by simp)]
/-- A 'told' has grown, and is stored. -/
theorem ca_toldPut {i : Nat} {v' : Value} {l : List Nat} (h : LayQ w0 w (rowsC g 0 cl gt gc cc gm cm n AL bc f s R) (mapsC n bc s) tyC (fput f (.inl (.inl i)) v') (qput (qsC n s) (.inl (.inl i)) (vK l))) (hi : i < n) :
    LayC g cl gt gc cc gm cm n AL bc R w0 (fput f (.inl (.inl i)) v') { s with told := upd s.told i l } (w.setCell ⟨gt, i, none⟩ v') := by
  have h1 := h.set 2 (fun j => fput f (.inl (.inl i)) v' (.inl (.inl j))) rfl (show i < n * 1 by omega) (fput_same _ _ _) (fun j _ hj => fput_ne (fun e => hj (Sum.inl.inj (Sum.inl.inj e))))
  have h2 := h1.sameQ (q' := qsC n { s with told := upd s.told i l }) fun a => (qsC_told a).symm
  show LayQ w0 _ (rowsC g 0 cl gt gc cc gm cm n AL bc (fput f (.inl (.inl i)) v') { s with told := upd s.told i l } R) _ tyC _ _
  unfold rowsC
  rw [fput_told, show msgF (fput f (.inl (.inl i)) v') { s with told := upd s.told i l } = msgF f s from msgF_told]
  exact h2
/-- A clock ticks. -/
theorem ca_tick {i o x b off cap : Nat} (h : LayC g cl gt gc cc gm cm n AL bc R w0 f s w) (hi : i < n) (hf : f (.inl (.inr i)) = .slice (some ⟨b, off, none⟩) n cap) (ho : o < n) :
    LayC g cl gt gc cc gm cm n AL bc R w0 f { s with clock := upd s.clock i (upd (s.clock i) o x) } (w.setCell ⟨b, off + o, none⟩ (.int .i64 (x : Nat))) := by
  have hl : (qsC n s (.inl (.inr i))).length = n := by
    show (if i < n then vec n (s.clock i) else []).length = n
    rw [if_pos hi, vec_len]
  exact (LayQ.poke h (.inl (.inr i)) (.int .i64 (x : Nat)) hf (by rw [hl]; exact ho)).sameQ fun a => (qsC_clock hi a).symm
end
def RowC (g gt n i : Nat) (v : Value) (w : World) : Prop := w.cell? ⟨g, 2, none⟩ = some (.slice (some ⟨gt, 0, none⟩) n n) ∧ w.cell? ⟨gt, i, none⟩ = some v
section
variable (g cl gt gc cc gm cm n : Nat) (AL : Option Addr) (bc : Nat → Nat) (R : List LRow) (w0 : World)
set_option maxRecDepth 100000 in
set_option maxHeartbeats 1600000 in
theorem tell_any (i k j : Nat) (f : FC → Value) (s : CaS) (w : World) (hn1 : 1 ≤ n) (hn : n ≤ 6) (hj : j ≤ 100) (hB : CaB n j s) (hi : i < n) (hk : k < s.m) (h : LayC g cl gt gc cc gm cm n AL bc R w0 f s w) :
    Calls Try.prog 17 #[.pointer (some ⟨g, 0, none⟩), .int .i64 i, .int .i64 k] w fun e w' => e = .returned (.tuple #[]) ∧ ∃ f', LayC g cl gt gc cc gm cm n AL bc R w0 f' (tellC i k s) w' := by
  obtain ⟨iI, hiI, hzI0, hzI1, hzI2⟩ := info_parts infoIntC
  have HW := Lib.hid h; clear h
  obtain ⟨A, cap, hf, hcl, hcm, hct⟩ := ca_told HW.out hi
  have hlen := hB.len i
  have hmj := hB.m
  have hby := hB.by_ k hk
  have hck := hB.clock i (s.by_ k)
  have HF := Lib.hid hf
  clear hf hct hB
  have HS : Hid (∀ (W' : World) (Q' : List MRow) (f' : FC → Value) (q' : FC → List Value), LayQ w0 W' (rowsC g 0 cl gt gc cc gm cm n AL bc f s R) Q' tyC f' q' → RowC g gt n i (.slice A (s.told i).length cap) W') :=
    Lib.hid fun W' Q' f' q' h => ⟨h.lay.cellB 0 rfl 2 (by omega), by rw [← HF.out]; exact h.lay.cell1 2 rfl hi⟩
  have HS0 := Lib.hid (HS.out _ _ _ _ HW.out.drew)
  go_enter Try.func17, Try.ntmps17
  go_wp2
  refine wp_held_mask (RowC g gt n i (.slice A (s.told i).length cap)) [true, true, true, true, true, true, true, true, true, true, true, true, true, false, false, false, false] ?A1 (by kernel_rfl) rfl (by kernel_rfl) (by repeat' (first | (with_reducible apply tame_then) | (with_reducible apply tame_block) | (with_reducible apply tame_scope) | exact tame_gives | exact tame_body (fun _ _ h => ⟨_, h.1⟩))) HS0.out ?head ?tail
  case head =>
    intro W5 ⟨s0, s1⟩
    simp only [pick]
    go_wp2
    exact taken
  case tail =>
    simp only [pick, List.map_cons, List.map_nil, Bool.not_true, Bool.not_false]
    have HA := Lib.hid (HW.out.drew.alloc (.cells #[.int .i64 (k : Nat)] 3))
    refine tail_step ?_
    go_wp2
    refine holds (HS.out _ _ _ _ HA.out) ?_
    refine tail_step ?_
    have HO : Hid (QSl (w.drew.alloc (.cells #[.int .i64 (k : Nat)] 3)) w0.heap.size 3 (.slice A (s.told i).length cap) (vK (s.told i))) := Lib.hid (by
      have := HA.out.own (.inl (.inl i))
      rw [HF.out] at this
      exact this)
    have HC : Hid ((w.drew.alloc (.cells #[.int .i64 (k : Nat)] 3)).cell? ⟨w.drew.heap.size, 0, none⟩ = some (.int .i64 (k : Nat))) := Lib.hid (cell_one w.drew _ _)
    refine wpList_apQ rfl (.tmp 17) (.tmp 19) _ rfl 3 iI _ 8 Try.underlying32 hiI hzI0 hzI1 hzI2 rfl w0.heap.size rfl HO.out rfl HC.out rfl ((s.told i).length + 1) (by rw [vK_len]) (by rw [vK_len]; unfold maxLen; omega) (by rw [vK_len]; omega) HA.out.size ?_
    intro A2 cap2 w4 hq4 hg4 hb4
    have H4 := Lib.hid (HA.out.push (.inl (.inl i)) hq4 (by rw [HF.out, own_ab]; exact hg4) (by rw [HF.out, own_ab, own_ab]; exact hb4))
    rw [vK_app] at H4
    clear hq4 hg4 hb4 HO HA HC
    have HS4 := Lib.hid (HS.out _ _ _ _ H4.out)
    refine holds HS4.out ?_
    refine tail_step ?_
    go_wp2
    refine holds HS4.out ?_
    refine tail_last ?_
    have f2 := H4.out.lay.frz 2 rfl (by omega) i
    have cr := HS4.out.2
    have HL : Hid (LayC g cl gt gc cc gm cm n AL bc R w0 _ (toldC i k s) _) := Lib.hid (ca_toldPut H4.out hi)
    clear HS HS0 HS4 H4 HF HW
    go_wp2
    refine at_layQ (F := fun W' => Code.wp _ _ _ _ W') HL.out ?_
    intro W6 hW6
    have H6 := Lib.hid hW6
    clear hW6 HL
    generalize fput f (.inl (.inl i)) (.slice A2 ((s.told i).length + 1) cap2) = f6 at H6
    obtain ⟨-, d1, -, d3, -⟩ := ca_heads H6.out
    obtain ⟨b, off, cpc, hfc, hb1, hb2, dc, dcells, -, dfz⟩ := ca_clock H6.out hi hn1
    obtain ⟨bl, rfl, dm, -⟩ := ca_msg H6.out hk
    have dco := dcells _ hby
    have dfo := dfz (off + s.by_ k)
    have HL7 : Hid (LayC g cl gt gc cc gm cm n (some ⟨bl, 0, none⟩) bc R w0 f6 (tellC i k s) (W6.drew.setCell ⟨b, off + s.by_ k, none⟩ (.int .i64 (s.clock i (s.by_ k) + 1 : Nat)))) := Lib.hid (ca_tick H6.out.drew hi hfc hby)
    rw [Int.natCast_add] at HL7
    change W6.cell? ⟨b, off + s.by_ k, none⟩ = some (.int .i64 (s.clock i (s.by_ k) : Nat)) at dco
    change W6.cell? ⟨bl, k * 2, none⟩ = some (.int .i64 (s.by_ k : Nat)) at dm
    change W6.cell? ⟨g, 1, none⟩ = some (.slice (some ⟨bl, 0, none⟩) s.m cl) at d1
    clear dcells dfz H6 hfc
    generalize s.by_ k = o at *
    generalize s.clock i o = x at *
    refine wp_text 19 (by kernel_rfl) (by kernel_rfl) (by kernel_rfl) (by repeat' (first | (with_reducible apply tame_then) | (with_reducible apply tame_block) | (with_reducible apply tame_scope) | exact tame_gives | exact tame_body (fun _ _ h => ⟨_, h.1⟩))) ?_
    simp only [List.take_succ_cons, List.take_zero, List.drop_succ_cons, List.drop_zero]
    go_wp2
    refine headed ?_
    go_wp2
    go_end0
    exact ⟨rfl, f6, HL7.out⟩
end
end Go.Proofs.Ytiljnddjecbmfaa
