/- The walk of snap's 'record'. -/
import Derived.Test.YtfcgjmekeonemaaSnMath
import Derived.Test.YtfcgjmekeonemaaMix
import Derived.Test.YtfcgjmekeonemaaUpdE
import Derived.BigQuiet
import Derived.Deep.QuietTactic
import Derived.Deep.LoopGhost
set_option linter.unusedVariables false
set_option linter.unusedSimpArgs false
namespace Go.Proofs.Ytfcgjmekeonemaa
open Go.RowKit Go.Maps Go.MapKept

abbrev FQ := Nat × Nat ⊕ Nat
def tyI : FQ → TypeId := fun _ => 3
def vI (l : List Int) : List Value := l.map (Value.int .i64)
theorem vI_len (l : List Int) : (vI l).length = l.length := List.length_map ..
theorem vI_app (l : List Int) (x : Int) : vI l ++ [.int .i64 x] = vI (l ++ [x]) := by simp [vI]
def qsN (n : Nat) (s : SN) : FQ → List Value
  | .inl p => vI (s.way p)
  | .inr i => if i < n then vI ((List.range n).map fun j => s.wayR (i, j)) else []
/-- The map of the closed ways. -/
def closedE (n : Nat) (c : Nat × Nat → Bool) (es : Array MapEntry) (cl : Nat) : Prop := EMap Try.prog 47 (.bool false) keyQ (fun p => c p = true) es.size (fun p => .bool (c p)) es cl ∧ ∀ p, c p = true → p.1 < n ∧ p.2 < n
abbrev hdN (g gh gr gk gw bm bc n : Nat) (C D : Value) : LRow := blk g 54 9 (ofL [.int .i64 n, .slice (some ⟨gh, 0, none⟩) n n, .map (some bm), .slice (some ⟨gr, 0, none⟩) n n, .map (some bc), C, D, .slice (some ⟨gk, 0, none⟩) n n, .slice (some ⟨gw, 0, none⟩) n n])
abbrev rowsN (g gh gr gk gw bm bc n : Nat) (C D : Value) (f : FQ → Value) (s : SN) (R : List LRow) : List LRow :=
  hdN g gh gr gk gw bm bc n C D :: arr gh 3 n (fun i => .int .i64 (s.have_ i)) :: arr gr 4 n (fun i => .bool (s.rec_ i)) :: arr gk 3 n (fun i => .int .i64 (s.kept i)) :: arr gw 34 n (fun i => f (.inr i)) :: R
abbrev mapsN (bm bc n : Nat) (f : FQ → Value) (s : SN) : List MRow := [⟨bm, wayE Try.prog 47 n (fun p => f (.inl p))⟩, ⟨bc, closedE n s.closed⟩]
abbrev LayN (g gh gr gk gw bm bc n : Nat) (C D : Value) (R : List LRow) (w0 : World) (f : FQ → Value) (s : SN) (w : World) : Prop :=
  LayQ w0 w (rowsN g gh gr gk gw bm bc n C D f s R) (mapsN bm bc n f s) tyI f (qsN n s)
/-- All short. -/
def ShortN (k : Nat) (s : SN) : Prop := ∀ p, (s.way p).length ≤ k
theorem zeroSl (u : World) : (zeroValue 34).run Try.prog u = .ok (.slice none 0 0) u := by kernel_rfl
theorem infoIntN : (Try.prog.info? 3).map (fun i => (i.zero, i.size, i.bytes)) = some (some (.int .i64 0), 1, 8) := by kernel_rfl
theorem fput_inr (f : FQ → Value) (p : Nat × Nat) (v : Value) : (fun i => fput f (.inl p) v (.inr i)) = fun i => f (.inr i) := funext fun i => fput_ne (by simp)
theorem fput_inl (f : FQ → Value) (p : Nat × Nat) (v : Value) : (fun q => fput f (.inl p) v (.inl q)) = fput (fun q => f (.inl q)) p v := funext fun q => by
  unfold fput
  by_cases e : q = p
  · subst e; simp
  · rw [if_neg e, if_neg (fun h => e (Sum.inl.inj h))]
theorem qsN_way {n : Nat} {s : SN} {p : Nat × Nat} {l : List Int} (a : FQ) : qput (qsN n s) (.inl p) (vI l) a = qsN n { s with way := qput s.way p l } a := by
  rcases a with q | i
  · by_cases e : q = p
    · subst e
      rw [qput_same]
      show _ = vI (qput s.way q l q)
      rw [qput_same]
    · rw [qput_ne (fun h => e (Sum.inl.inj h))]
      show _ = vI (qput s.way p l q)
      rw [qput_ne e]; rfl
  · rw [qput_ne (by simp)]; rfl
section
variable {g gh gr gk gw bm bc n : Nat} {C D : Value} {R : List LRow} {w0 w : World} {f : FQ → Value} {s : SN}
theorem sn_heads (h : LayN g gh gr gk gw bm bc n C D R w0 f s w) : w.cell? ⟨g, 0, none⟩ = some (.int .i64 n) ∧ w.cell? ⟨g, 1, none⟩ = some (.slice (some ⟨gh, 0, none⟩) n n) ∧ w.cell? ⟨g, 2, none⟩ = some (.map (some bm)) ∧
    w.cell? ⟨g, 3, none⟩ = some (.slice (some ⟨gr, 0, none⟩) n n) ∧ w.cell? ⟨g, 4, none⟩ = some (.map (some bc)) ∧ w.cell? ⟨g, 7, none⟩ = some (.slice (some ⟨gk, 0, none⟩) n n) ∧ w.cell? ⟨g, 8, none⟩ = some (.slice (some ⟨gw, 0, none⟩) n n) :=
  ⟨h.lay.cellB 0 rfl 0 (by omega), h.lay.cellB 0 rfl 1 (by omega), h.lay.cellB 0 rfl 2 (by omega), h.lay.cellB 0 rfl 3 (by omega), h.lay.cellB 0 rfl 4 (by omega), h.lay.cellB 0 rfl 7 (by omega), h.lay.cellB 0 rfl 8 (by omega)⟩
theorem sn_look (p : Nat × Nat) (h : LayN g gh gr gk gw bm bc n C D R w0 f s w) (hn : n ≤ 6) (hp : p.1 < n ∧ p.2 < n) : (Instr.lookup 50 (.map (some bm)) (keyQ p) false).run Try.prog w = .ok (f (.inl p)) w :=
  wq_look Try.underlying50 zeroSl 0 p h rfl hn hp
/-- The entry at p is written: the queue's slice is v'. -/
theorem sn_put (p : Nat × Nat) {v' : Value} {l : List Int} {f0 : FQ → Value} (h : LayQ w0 w (rowsN g gh gr gk gw bm bc n C D f0 s R) (mapsN bm bc n f0 s) tyI (fput f0 (.inl p) v') (qput (qsN n s) (.inl p) (vI l))) (hn : n ≤ 6) (hp : p.1 < n ∧ p.2 < n) :
    ∃ es c, (Instr.mapUpdate 50 (.map (some bm)) (keyQ p) v').run Try.prog w = .ok () (ChangeMaps.setBlock w bm (.map es c)) ∧ LayN g gh gr gk gw bm bc n C D R w0 (fput f0 (.inl p) v') { s with way := qput s.way p l } (ChangeMaps.setBlock w bm (.map es c)) := by
  obtain ⟨es, c, h1, h2⟩ := wq_update Try.underlying50 0 p v' h rfl hn hp
  refine ⟨es, c, h1, ?_⟩
  have h3 := h2.sameQ (q' := qsN n { s with way := qput s.way p l }) fun a => (qsN_way a).symm
  show LayQ w0 _ (rowsN g gh gr gk gw bm bc n C D (fput f0 (.inl p) v') _ R) (mapsN bm bc n (fput f0 (.inl p) v') _) tyI _ _
  unfold rowsN mapsN
  rw [fput_inr, fput_inl]
  exact h3
end
/-- What the loads of 'p.way[k] = append(p.way[k], mark)' read. -/
def MkS (g bm : Nat) (p : Nat × Nat) (v : Value) (w : World) : Prop := w.cell? ⟨g, 2, none⟩ = some (.map (some bm)) ∧ (Instr.lookup 50 (.map (some bm)) (keyQ p) false).run Try.prog w = .ok v w
theorem marks_zero (i : Nat) (q : Nat × Nat → List Int) : marks i 0 q = q := by funext p; rw [marks_at, if_neg (by omega)]
theorem marks_self (i : Nat) (q : Nat × Nat → List Int) : marks i (i + 1) q = marks i i q := by
  funext p
  rw [marks_at, marks_at]
  by_cases h : p.1 = i ∧ p.2 ≠ i ∧ p.2 < i + 1
  · rw [if_pos h, if_pos ⟨h.1, h.2.1, by omega⟩]
  · rw [if_neg h, if_neg (fun h' => h ⟨h'.1, h'.2.1, by omega⟩)]
theorem marks_next {i j : Nat} (q : Nat × Nat → List Int) (h : j ≠ i) : marks i (j + 1) q = qput (marks i j q) (i, j) (marks i j q (i, j) ++ [0]) := by
  funext p
  rw [marks_at, qput_at]
  by_cases e : p = (i, j)
  · subst e
    rw [if_pos ⟨rfl, h, Nat.lt_succ_self j⟩, if_pos rfl, marks_at, if_neg (by simp)]
  · rw [if_neg e, marks_at]
    by_cases h1 : p.1 = i ∧ p.2 ≠ i ∧ p.2 < j + 1
    · have : p.2 ≠ j := fun e2 => e (Prod.ext h1.1 e2)
      rw [if_pos h1, if_pos ⟨h1.1, h1.2.1, by omega⟩]
    · rw [if_neg h1, if_neg (fun h' => h1 ⟨h'.1, h'.2.1, by omega⟩)]
theorem marks_len {i j k : Nat} {q : Nat × Nat → List Int} (h : ∀ p, (q p).length ≤ k) (p : Nat × Nat) : (marks i j q p).length ≤ k + 1 := by
  have := h p
  rw [marks_at]; split
  · simp; omega
  · omega
section
variable (g gh gr gk gw bm bc n : Nat) (C D : Value) (R : List LRow) (w0 : World)
set_option maxRecDepth 100000 in
set_option maxHeartbeats 1000000 in
theorem record_any (i : Nat) (f : FQ → Value) (s : SN) (w : World) (hn : n ≤ 6) (hi : i < n) (hq : ShortN 1000 s) (h : LayN g gh gr gk gw bm bc n C D R w0 f s w) :
    Calls Try.prog 20 #[.pointer (some ⟨g, 0, none⟩), .int .i64 i] w fun e w' => e = .returned (.tuple #[]) ∧ ∃ f', LayN g gh gr gk gw bm bc n C D R w0 f' (recS n i s) w' := by
  obtain ⟨iI, hiI, hzI0, hzI1, hzI2⟩ := info_parts infoIntN
  have H := Lib.hid h; clear h
  obtain ⟨r, hr⟩ : ∃ r, r = recS n i s := ⟨_, rfl⟩
  rw [← hr]
  have HQ := Lib.hid hq; clear hq
  have e0 := H.out.lay.cell1 2 rfl hi
  obtain ⟨c0, c1, c2, c3, c4, c7, c8⟩ := sn_heads H.out
  cases hb : s.rec_ i
  · have HR := Lib.hid (hr.trans (if_neg (by rw [hb]; simp)))
    rw [hb] at e0
    clear hr hb
    have f2 := H.out.lay.frz 2 rfl (by omega) i
    have H1 := Lib.hid (H.out.upd 2 (mk := Value.bool) true rfl hi)
    go_enter Try.func20, Try.ntmps20
    go_wp2
    clear c0 c1 c2 c3 c4 c7 c8 e0 f2
    refine at_layQ (F := fun W' => Code.wp _ _ _ _ W') H1.out ?_
    intro W hW
    have HW : Hid (LayN g gh gr gk gw bm bc n C D R w0 f { s with rec_ := upd s.rec_ i true } W) := Lib.hid hW
    clear hW H1 H
    obtain ⟨c0, c1, c2, c3, c4, c7, c8⟩ := sn_heads HW.out
    have e1 : W.cell? ⟨gh, i, none⟩ = some (.int .i64 (s.have_ i)) := HW.out.lay.cell1 1 rfl hi
    have f3 := HW.out.lay.frz 3 rfl (by omega) i
    have e3 : W.cell? ⟨gk, i, none⟩ = some (.int .i64 (s.kept i)) := HW.out.lay.cell1 3 rfl hi
    have n03 := HW.out.lay.ne_ 0 3 rfl rfl (by omega)
    have H2 : Hid (LayN g gh gr gk gw bm bc n C D R w0 f { s with rec_ := upd s.rec_ i true, kept := upd s.kept i (s.have_ i), way := marks i 0 s.way } (W.drew.setCell ⟨gk, i, none⟩ (.int .i64 (s.have_ i)))) := Lib.hid (by rw [marks_zero]; exact HW.out.drew.upd 3 (mk := Value.int .i64) (s.have_ i) rfl hi)
    refine wp_text 14 (by kernel_rfl) (by kernel_rfl) (by kernel_rfl) (by repeat' (first | (with_reducible apply tame_then) | (with_reducible apply tame_block) | (with_reducible apply tame_scope) | exact tame_gives | exact tame_body (fun _ _ h => ⟨_, h.1⟩))) ?_
    simp only [List.take_succ_cons, List.take_zero, List.drop_succ_cons, List.drop_zero]
    go_wp2
    refine headed ?_
    go_wp2
    clear c0 c1 c2 c3 c4 c7 c8 f3 e1 e3 n03 HW
    go_loopw [36] (fun v wr => ∃ (j : Nat) (f : FQ → Value), j ≤ n ∧ v = .int .i64 j ∧ Hid (LayN g gh gr gk gw bm bc n C D R w0 f { s with rec_ := upd s.rec_ i true, kept := upd s.kept i (s.have_ i), way := marks i j s.way } wr)) (fun v _ => n - (intOf v).toNat)
    case atStart => exact ⟨0, f, by omega, rfl, H2⟩
    case round =>
      clear H2
      obtain ⟨j, f, hj, rfl, H⟩ := hrel
      by_cases hlt : j < n
      · by_cases hij : j = i
        · subst hij
          go_wp2
          go_roundw
          case rel => exact ⟨j + 1, f, by omega, by go_num, by rw [marks_self]; exact H⟩
          case measure => simp [intOf]; omega
        · have e1 : ((j : Int) != (i : Int)) = true := by rw [bne_iff_ne]; omega
          have hHN := marks_next s.way hij
          obtain ⟨A, cap, hf, hcl, hcm⟩ := H.out.len (.inl (i, j))
          have hlen : (qsN n { s with rec_ := upd s.rec_ i true, kept := upd s.kept i (s.have_ i), way := marks i j s.way } (.inl (i, j))).length = (marks i j s.way (i, j)).length := vI_len _
          rw [hlen] at hf hcl
          have hsh : (marks i j s.way (i, j)).length ≤ 1001 := marks_len HQ.out (i, j)
          have HF := Lib.hid hf
          have hS : MkS g bm (i, j) (f (.inl (i, j))) wr.drew := ⟨(sn_heads H.out).2.2.1, sn_look (i, j) H.out.drew hn ⟨hi, hlt⟩⟩
          rw [hf] at hS
          have HS := Lib.hid hS
          clear hlen hf hS hcl hcm
          go_wp2
          refine wp_held_mask (MkS g bm (i, j) (.slice A (marks i j s.way (i, j)).length cap)) [true, true, true, true, true, true, true, true, true, true, true, true, true, true, true, false, false, false] ?A1 (by kernel_rfl) rfl (by kernel_rfl) (by repeat' (first | (with_reducible apply tame_then) | (with_reducible apply tame_block) | (with_reducible apply tame_scope) | exact tame_gives | exact tame_body (fun _ _ h => ⟨_, h.1⟩))) HS.out ?head ?tail
          case head =>
            intro W5 ⟨s0, s1⟩
            have s5 : (Instr.lookup 50 (.map (some bm)) (.agg #[.int .i64 (i : Nat), .int .i64 (j : Nat)]) false).run Try.prog W5 = .ok (.slice A (marks i j s.way (i, j)).length cap) W5 := s1
            clear s1
            simp only [pick]
            go_wp2
            exact taken
          case tail =>
            simp only [pick, List.map_cons, List.map_nil, Bool.not_true, Bool.not_false]
            have HA := Lib.hid ((H.out.drew.alloc (.cells #[.int .i64 0] 3)))
            have HO : Hid (QSl (wr.drew.alloc (.cells #[.int .i64 0] 3)) w0.heap.size 3 (.slice A (marks i j s.way (i, j)).length cap) (vI (marks i j s.way (i, j)))) := Lib.hid (by
              have := HA.out.own (.inl (i, j))
              rw [HF.out] at this
              exact this)
            refine tail_step ?_
            go_wp2
            refine holds ⟨(sn_heads HA.out).2.2.1, by rw [← HF.out]; exact sn_look (i, j) HA.out hn ⟨hi, hlt⟩⟩ ?_
            refine tail_step ?_
            refine wpList_apQ rfl (.tmp 56) (.tmp 57) _ rfl 3 iI _ 8 Try.underlying34 hiI hzI0 hzI1 hzI2 rfl w0.heap.size rfl HO.out rfl (cell_one wr.drew (.int .i64 0) 3) rfl ((marks i j s.way (i, j)).length + 1) (by rw [vI_len]) (by rw [vI_len]; unfold maxLen; omega) (by rw [vI_len]; omega) HA.out.size ?_
            intro A2 cap2 w4 hq hg hb
            have H4 := Lib.hid (HA.out.push (.inl (i, j)) hq (by rw [HF.out, own_ab]; exact hg) (by rw [HF.out, own_ab, own_ab]; exact hb))
            rw [vI_app] at H4
            clear hq hg hb HO HA HS
            refine holds ⟨H4.out.lay.cellB 0 rfl 2 (by omega), by rw [← HF.out]; exact wq_look Try.underlying50 zeroSl 0 (i, j) H4.out rfl hn ⟨hi, hlt⟩⟩ ?_
            refine tail_last ?_
            obtain ⟨es', c', hput, hl7⟩ := sn_put (i, j) H4.out hn ⟨hi, hlt⟩
            have HL7 := Lib.hid hl7
            clear hl7 H4
            refine wpList_updE rfl (.tmp 45) (.tmp 48) (.tmp 58) _ rfl rfl rfl rfl hput ?_
            clear hput
            go_wp2
            go_roundw
            case rel => exact ⟨j + 1, _, by omega, by go_num, by rw [hHN]; exact HL7⟩
            case measure => simp [intOf]; omega
      · obtain rfl : j = n := by omega
        go_wp2
        go_end0
        exact ⟨rfl, f, by rw [HR.out]; exact H.out⟩
  · have HR := Lib.hid (hr.trans (if_pos hb))
    rw [hb] at e0
    clear hr hb
    go_enter Try.func20, Try.ntmps20
    go_wp2
    exact bodyPost_ret (v := .tuple #[]) (by simp [results, Try.results20, go_sem]) rfl ⟨rfl, f, by rw [HR.out]; exact H.out⟩
end
end Go.Proofs.Ytfcgjmekeonemaa
