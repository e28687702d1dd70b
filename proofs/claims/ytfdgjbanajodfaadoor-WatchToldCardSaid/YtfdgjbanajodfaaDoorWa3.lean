/- The walk of tell. -/
import Derived.Test.YtfdgjbanajodfaaDoorWa2
import Derived.Test.YtfdgjbanajodfaaDoorTrDo
import Derived.Deep.CutRange
import Derived.Deep.CutBlock
set_option linter.unusedVariables false
set_option linter.unusedSimpArgs false
namespace Go.Proofs.YtfdgjbanajodfaaDoor
open Go.RowKit Go.Maps Go.MapKept

section
variable {w0 w : World} {pb tb mb gn : Nat} {NA : Nat → Option Addr} {NC : Nat → Nat} {nt : Nat → List (Nat × Str)} {R : List LRow} {Q : List MRow} {l : List WKey}
theorem newKs {L : List LRow} (h : LayM w0 w L Q) (cs : Array Value) (n : Nat) (K : Nat → WKey) (hs : cs.size = n * 3) (hn : n ≤ 3) (hf : ∀ j, j < n * 3 → cs[j]? = some (kF K j)) :
    LayM w0 (w.alloc (.cells cs 72)) (rowKs (some ⟨w.heap.size, 0, none⟩) n n K :: L) Q :=
  h.step (h.lay.new cs 72 3 n (kF K) w.heap.size rfl hs (by unfold maxLen; omega) hf) (.alloc _ _)
theorem fire_in (X : List LRow) (h : LayM w0 w (X ++ rowsW pb tb mb gn NA NC nt R) (⟨mb, SetW l⟩ :: Q)) (cs : Array Value) (n : Nat) (K : Nat → WKey) (ks : List WKey) (hs : cs.size = n * 3) (hn : n ≤ 3) (hf : ∀ j, j < n * 3 → cs[j]? = some (kF K j)) (hK : ∀ i, i < n → KeyOkW (K i)) (hks : (List.range n).map K = ks) :
    Calls Tryd.prog 28 #[.pointer (some ⟨pb, 0, none⟩), .slice (some ⟨w.heap.size, 0, none⟩) n n] (w.alloc (.cells cs 72)) (Gives fun v w' => v = .bool (fireW false l ks).1 ∧ LayM w0 w' (X ++ rowsW pb tb mb gn NA NC nt R) (⟨mb, SetW (fireW false l ks).2⟩ :: Q)) := by
  subst hks
  have h1 := (newKs h cs n K hs hn hf).permL (List.Perm.cons _ List.perm_middle)
  refine (fire_any pb tb mb gn n n _ K l _ Q w0 _ hn hK h1).mono ?_
  rintro e w' ⟨v, rfl, rfl, h2⟩
  exact ⟨_, rfl, rfl, h2.tl.permL List.perm_middle.symm⟩
end
theorem one_key (q : WKey) : ∀ j, j < 1 * 3 → (#[Value.int .i64 (q.1 : Nat), .int .i64 (q.2.1 : Nat), .string (bs q.2.2)])[j]? = some (kF (fun _ => q) j) := fun j hj => by
  rcases (by omega : j = 0 ∨ j = 1 ∨ j = 2) with rfl | rfl | rfl <;> rfl
def three (a b c : WKey) (i : Nat) : WKey := if i = 0 then a else if i = 1 then b else c
theorem three_keys (a b c : WKey) : ∀ j, j < 3 * 3 → (#[Value.int .i64 (a.1 : Nat), .int .i64 (a.2.1 : Nat), .string (bs a.2.2), .int .i64 (b.1 : Nat), .int .i64 (b.2.1 : Nat), .string (bs b.2.2), .int .i64 (c.1 : Nat), .int .i64 (c.2.1 : Nat), .string (bs c.2.2)])[j]? = some (kF (three a b c) j) := fun j hj => by
  rcases (by omega : j = 0 ∨ j = 1 ∨ j = 2 ∨ j = 3 ∨ j = 4 ∨ j = 5 ∨ j = 6 ∨ j = 7 ∨ j = 8) with rfl | rfl | rfl | rfl | rfl | rfl | rfl | rfl | rfl <;> rfl
theorem kindF_is {k : Int} (h1 : 1 ≤ k) (h2 : k ≤ 3) : kindF k = .int .i64 (k.toNat : Nat) := by
  rcases (by omega : k = 1 ∨ k = 2 ∨ k = 3) with rfl | rfl | rfl <;> rfl
theorem infoNote : (Tryd.prog.info? 38).map (fun i => (i.zero, i.size, i.bytes)) = some (some (.agg #[.int .i64 0, .string ⟨#[]⟩]), 2, 24) := by kernel_rfl
theorem fired_kind {d : Deed} {i : Nat} {l : List WKey} (h : (fireW false l (keysW d i)).1 = true) : 1 ≤ d.kind ∧ d.kind ≤ 3 := by
  unfold keysW at h
  by_cases h2 : d.kind = 2
  · omega
  rw [if_neg h2] at h
  by_cases h1 : d.kind = 1
  · omega
  rw [if_neg h1] at h
  by_cases h3 : d.kind = 3
  · omega
  rw [if_neg h3] at h
  cases h
abbrev keysL (t8 t9 t10 t3 k : Nat) (p : Str) (d : Deed) : List LRow :=
  [blk t8 72 3 (ofL [.int .i64 (k : Nat), .int .i64 4, .string (bs p)]), blk t9 72 3 (ofL [.int .i64 (k : Nat), .int .i64 5, .string (bs p)]), blk t10 72 3 (ofL [.int .i64 (k : Nat), .int .i64 5, .string (bs (parL p))]), blk t3 30 4 (ofL (cellsD d))]
theorem keys3 {w0 w : World} {t3 k : Nat} {p : Str} {d : Deed} {R : List LRow} {Q : List MRow} (h : LayM w0 w (blk t3 30 4 (ofL (cellsD d)) :: R) Q) (l8 l9 l10 : List Value) (e8 : l8 = [.int .i64 (k : Nat), .int .i64 4, .string (bs p)]) (e9 : l9 = [.int .i64 (k : Nat), .int .i64 5, .string (bs p)]) (e10 : l10 = [.int .i64 (k : Nat), .int .i64 5, .string (bs (parL p))])
    (W : World) (t8 t9 t10 : Nat) (a b c : List Value) (ha : a.length = 3) (hb : b.length = 3) (hc : c.length = 3) (x y z : Nat) (hx : x = w.heap.size) (hy : y = x + 1) (hz : z = x + 2) (hW : Sim (((w.alloc (.cells a.toArray 72)).alloc (.cells b.toArray 72)).alloc (.cells c.toArray 72)) W)
    (hp : List.Perm [(z, c), (y, b), (x, a)] [(t8, l8), (t9, l9), (t10, l10)]) : LayM w0 W (keysL t8 t9 t10 t3 k p d ++ R) Q := by
  subst e8 e9 e10
  have h1 := (((h.newB a 72 3 ha x hx).newB b 72 3 hb y (by rw [hy, hx]; simp)).newB c 72 3 hc z (by rw [hz, hx]; simp)).sim hW
  have h2 := hp.map fun q : Nat × List Value => (blk q.1 72 3 (ofL q.2) : LRow)
  exact h1.permL (h2.append_right (blk t3 30 4 (ofL (cellsD d)) :: R))
section
variable {α : Type} (A B C : α)
theorem p3a : [A, B, C].Perm [A, B, C] := .refl _
theorem p3b : [A, B, C].Perm [A, C, B] := (List.Perm.swap C B []).cons A
theorem p3c : [A, B, C].Perm [B, A, C] := List.Perm.swap B A [C]
theorem p3d : [A, B, C].Perm [B, C, A] := (p3c A B C).trans ((List.Perm.swap C A []).cons B)
theorem p3e : [A, B, C].Perm [C, A, B] := (p3b A B C).trans (List.Perm.swap C A [B])
theorem p3f : [A, B, C].Perm [C, B, A] := (p3e A B C).trans ((List.Perm.swap B A []).cons C)
end
set_option maxRecDepth 100000 in
set_option maxHeartbeats 3200000 in
theorem tell_any (pb tb mb gn : Nat) (σ : WS) (d : Deed) (NA : Nat → Option Addr) (NC : Nat → Nat) (R : List LRow) (Q : List MRow) (w0 w : World) (hk1 : 1 ≤ d.kind) (hk5 : d.kind ≤ 5) (h47 : 47 ∈ d.path) (hp : d.path.length ≤ 140737488351232) (hnt : ∀ i, (σ.nt i).length ≤ 59) (h : LayM w0 w (rowsW pb tb mb gn NA NC σ.nt R) (⟨mb, SetW σ.ws⟩ :: Q)) :
    Calls Tryd.prog 21 #[.pointer (some ⟨pb, 0, none⟩), .agg #[.int .i64 d.kind, .string (bs d.path), .string (bs d.data), .int .i64 d.version]] w (Gives fun v' w' => ∃ NA' NC', v' = .tuple #[] ∧ LayM w0 w' (rowsW pb tb mb gn NA' NC' (tellN d σ 6).nt R) (⟨mb, SetW (tellN d σ 6).ws⟩ :: Q)) := by
  obtain ⟨dk, p, x, v⟩ := d
  dsimp only at hk1 hk5 h47 hp
  have HP47 := Lib.hid h47
  have HNT := Lib.hid hnt
  have HM := Lib.hid (h.newB (cellsD ⟨dk, p, x, v⟩) 30 4 rfl _ rfl)
  have hmm := @run_makeMap Tryd.prog
  obtain ⟨iN, hiN, hzN0, hzN1, hzN2⟩ := info_parts infoNote
  clear h h47 hnt
  go_enter Tryd.func21, Tryd.ntmps21
  go_upto_region 1 with (fail)
  refine at_layM (F := fun W' => Code.wp _ _ _ _ W') HM.out ?_
  intro W hW
  obtain ⟨w1, w2, w3, hr1, hr2, hr3, hlk, hM3⟩ := kind_maps hW.drew W.heap.size rfl
  have HR1 := Lib.hid hr1
  have HR2 := Lib.hid hr2
  have HR3 := Lib.hid hr3
  obtain ⟨kv, hkv, hkw⟩ : ∃ kv : Int, kindF dk = .int .i64 kv ∧ (dk ≤ 3 → kv = (dk.toNat : Nat)) := by
    rcases (by omega : dk = 1 ∨ dk = 2 ∨ dk = 3 ∨ dk = 4 ∨ dk = 5) with rfl | rfl | rfl | rfl | rfl
    · exact ⟨1, by kernel_rfl, fun _ => rfl⟩
    · exact ⟨2, by kernel_rfl, fun _ => rfl⟩
    · exact ⟨3, by kernel_rfl, fun _ => rfl⟩
    · exact ⟨0, by kernel_rfl, fun h => absurd h (by decide)⟩
    · exact ⟨0, by kernel_rfl, fun h => absurd h (by decide)⟩
  have HKW := Lib.hid hkw
  have hlk := (hlk dk (by omega) (by omega)).trans (congrArg (fun u => Result.ok u w3) hkv)
  clear hkv hkw
  have d1 := hW.lay.cellB 0 rfl 1 (by omega)
  have e0 := hM3.lay.cellB 0 rfl 0 (by omega)
  have e2 := hM3.lay.cellB 1 rfl 2 (by omega)
  simp only [cellsD, ofL_0, ofL_1, ofL_2] at d1 e0 e2
  have HM3 := Lib.hid hM3
  clear hW HM hr1 hr2 hr3 hM3
  generalize w.heap.size = t3 at *
  go_wp2_with (first
    | (go_at_call 27; refine (parent_any p _ HP47.out hp).mono ?_; rintro e w4 ⟨rfl, hw4⟩; subst w4)
    | (refine wpList_insE rfl (.tmp 18) (.const (.int .i64 1)) (.const (.int .i64 1)) _ rfl rfl rfl rfl HR1.out ?_)
    | (refine wpList_insE rfl (.tmp 18) (.const (.int .i64 2)) (.const (.int .i64 2)) _ rfl rfl rfl rfl HR2.out ?_)
    | (refine wpList_insE rfl (.tmp 18) (.const (.int .i64 3)) (.const (.int .i64 3)) _ rfl rfl rfl rfl HR3.out ?_)
    | fail)
  clear hlk hmm d1 e0 e2 HR1 HR2 HR3
  go_loopw [28] (fun i wr => ∃ (k : Nat) (NA : Nat → Option Addr) (NC : Nat → Nat), k ≤ 6 ∧ i = .int .i64 (k : Nat) ∧ Hid (LayM w0 wr (blk t3 30 4 (ofL (cellsD ⟨dk, p, x, v⟩)) :: rowsW pb tb mb gn NA NC (tellN ⟨dk, p, x, v⟩ σ k).nt R) (⟨mb, SetW (tellN ⟨dk, p, x, v⟩ σ k).ws⟩ :: Q))) (fun i _ => 6 - (intOf i).toNat)
  case atStart => exact ⟨0, NA, NC, by omega, rfl, HM3⟩
  case round =>
    clear HM3
    obtain ⟨k, NA, NC, hk, rfl, HQ⟩ := hrel
    have HN := Lib.hid (show tellN ⟨dk, p, x, v⟩ σ (k + 1) = tell1 ⟨dk, p, x, v⟩ k (tellN ⟨dk, p, x, v⟩ σ k) from rfl)
    have HLE := Lib.hid (Nat.le_trans (tell_le ⟨dk, p, x, v⟩ σ k k) (Nat.succ_le_succ (HNT.out k)))
    by_cases hlt : k < 6
    · generalize tellN ⟨dk, p, x, v⟩ σ k = τ at HQ HN HLE
      have d0 := HQ.out.lay.cellB 0 rfl 0 (by omega)
      have d1 := HQ.out.lay.cellB 0 rfl 1 (by omega)
      simp only [cellsD, ofL_0, ofL_1] at d0 d1
      have hsz := (HQ.out.lay.at_ 0 rfl).2
      go_upto_region 6 with (fail)
      go_cut [8, 9, 10, 28] from 28 to 84 (fun a b c i wx => i = .int .i64 (k : Nat) ∧ ∃ (t8 t9 t10 : Nat), a = .pointer (some ⟨t8, 0, none⟩) ∧ b = .pointer (some ⟨t9, 0, none⟩) ∧ c = .pointer (some ⟨t10, 0, none⟩) ∧
        Hid (LayM w0 wx (keysL t8 t9 t10 t3 k p ⟨dk, p, x, v⟩ ++ rowsW pb tb mb gn NA NC τ.nt R) (⟨mb, SetW τ.ws⟩ :: Q)))
      case first =>
        have a1 : ∀ o1, (wr.alloc o1).cell? ⟨t3, 1, none⟩ = some (.string (bs p)) := fun o1 => (HQ.out.alloc o1).lay.cellB 0 rfl 1 (by omega)
        have a2 : ∀ o1 o2, ((wr.alloc o1).alloc o2).cell? ⟨t3, 1, none⟩ = some (.string (bs p)) := fun o1 o2 => ((HQ.out.alloc o1).alloc o2).lay.cellB 0 rfl 1 (by omega)
        have a3 : ∀ o1 o2 o3, (((wr.alloc o1).alloc o2).alloc o3).cell? ⟨t3, 1, none⟩ = some (.string (bs p)) := fun o1 o2 o3 => (((HQ.out.alloc o1).alloc o2).alloc o3).lay.cellB 0 rfl 1 (by omega)
        go_region
        all_goals
          go_wp2
          go_meet
          first
            | exact ⟨rfl, _, _, _, rfl, rfl, rfl, Lib.hid (keys3 HQ.out _ _ _ rfl rfl rfl _ _ _ _ _ _ _ rfl rfl rfl _ _ _ rfl rfl rfl ⟨rfl, rfl, rfl, rfl⟩ (p3a _ _ _))⟩
            | exact ⟨rfl, _, _, _, rfl, rfl, rfl, Lib.hid (keys3 HQ.out _ _ _ rfl rfl rfl _ _ _ _ _ _ _ rfl rfl rfl _ _ _ rfl rfl rfl ⟨rfl, rfl, rfl, rfl⟩ (p3b _ _ _))⟩
            | exact ⟨rfl, _, _, _, rfl, rfl, rfl, Lib.hid (keys3 HQ.out _ _ _ rfl rfl rfl _ _ _ _ _ _ _ rfl rfl rfl _ _ _ rfl rfl rfl ⟨rfl, rfl, rfl, rfl⟩ (p3c _ _ _))⟩
            | exact ⟨rfl, _, _, _, rfl, rfl, rfl, Lib.hid (keys3 HQ.out _ _ _ rfl rfl rfl _ _ _ _ _ _ _ rfl rfl rfl _ _ _ rfl rfl rfl ⟨rfl, rfl, rfl, rfl⟩ (p3d _ _ _))⟩
            | exact ⟨rfl, _, _, _, rfl, rfl, rfl, Lib.hid (keys3 HQ.out _ _ _ rfl rfl rfl _ _ _ _ _ _ _ rfl rfl rfl _ _ _ rfl rfl rfl ⟨rfl, rfl, rfl, rfl⟩ (p3e _ _ _))⟩
            | exact ⟨rfl, _, _, _, rfl, rfl, rfl, Lib.hid (keys3 HQ.out _ _ _ rfl rfl rfl _ _ _ _ _ _ _ rfl rfl rfl _ _ _ rfl rfl rfl ⟨rfl, rfl, rfl, rfl⟩ (p3f _ _ _))⟩
      case rest =>
        obtain ⟨rfl, t8, t9, t10, rfl, rfl, rfl, HC⟩ := hcut
        clear HQ d0 d1 hsz
        have d0 := HC.out.lay.cellB 3 rfl 0 (by omega)
        have k80 := HC.out.lay.cellB 0 rfl 0 (by omega)
        have k81 := HC.out.lay.cellB 0 rfl 1 (by omega)
        have k82 := HC.out.lay.cellB 0 rfl 2 (by omega)
        have k90 := HC.out.lay.cellB 1 rfl 0 (by omega)
        have k91 := HC.out.lay.cellB 1 rfl 1 (by omega)
        have k92 := HC.out.lay.cellB 1 rfl 2 (by omega)
        have k00 := HC.out.lay.cellB 2 rfl 0 (by omega)
        have k01 := HC.out.lay.cellB 2 rfl 1 (by omega)
        have k02 := HC.out.lay.cellB 2 rfl 2 (by omega)
        simp only [cellsD, ofL_0, ofL_1, ofL_2] at d0 k80 k81 k82 k90 k91 k92 k00 k01 k02
        have HPL := Lib.hid (parL_len p)
        have q1 : KeyOkW (k, 4, p) := ⟨by show k < 1000; omega, by show 4 < 1000; omega, hp⟩
        have q2 : KeyOkW (k, 5, p) := ⟨by show k < 1000; omega, by show 5 < 1000; omega, hp⟩
        have q3 : KeyOkW (k, 5, parL p) := ⟨by show k < 1000; omega, by show 5 < 1000; omega, Nat.le_trans HPL.out hp⟩
        have F1 := Lib.hid (fire_in (keysL t8 t9 t10 t3 k p ⟨dk, p, x, v⟩) HC.out _ 1 (fun _ => (k, 5, parL p)) [(k, 5, parL p)] rfl (by omega) (one_key (k, 5, parL p)) (fun _ _ => q3) rfl)
        have F2 := Lib.hid (fire_in (keysL t8 t9 t10 t3 k p ⟨dk, p, x, v⟩) HC.out _ 1 (fun _ => (k, 4, p)) [(k, 4, p)] rfl (by omega) (one_key (k, 4, p)) (fun _ _ => q1) rfl)
        have F3 := Lib.hid (fire_in (keysL t8 t9 t10 t3 k p ⟨dk, p, x, v⟩) HC.out _ 3 (three (k, 4, p) (k, 5, p) (k, 5, parL p)) [(k, 4, p), (k, 5, p), (k, 5, parL p)] rfl (by omega) (three_keys (k, 4, p) (k, 5, p) (k, 5, parL p)) (fun i hi => by
          rcases (by omega : i = 0 ∨ i = 1 ∨ i = 2) with rfl | rfl | rfl
          · exact q1
          · exact q2
          · exact q3) rfl)
        clear q1 q2 q3
        go_upto_block 2 with fail
        go_cut [11, 28] from 28 to 84 (fun f i wx => i = .int .i64 (k : Nat) ∧ f = .bool (fireW false τ.ws (keysW ⟨dk, p, x, v⟩ k)).1 ∧ Hid (LayM w0 wx (keysL t8 t9 t10 t3 k p ⟨dk, p, x, v⟩ ++ rowsW pb tb mb gn NA NC τ.nt R) (⟨mb, SetW (fireW false τ.ws (keysW ⟨dk, p, x, v⟩ k)).2⟩ :: Q)))
        case first =>
          clear HN
          rcases (by omega : dk = 1 ∨ dk = 2 ∨ dk = 3 ∨ dk = 4 ∨ dk = 5) with rfl | rfl | rfl | rfl | rfl
          · go_wp2_with (first
              | (go_at_call 28; refine F1.out.mono ?_; rintro e w5 ⟨v5, rfl, rfl, h5⟩; have H5 := Lib.hid h5; clear h5)
              | fail)
            go_meet
            exact ⟨rfl, rfl, H5⟩
          · go_wp2_with (first
              | (go_at_call 28; refine F2.out.mono ?_; rintro e w5 ⟨v5, rfl, rfl, h5⟩; have H5 := Lib.hid h5; clear h5)
              | fail)
            go_meet
            exact ⟨rfl, rfl, H5⟩
          · go_wp2_with (first
              | (go_at_call 28; refine F3.out.mono ?_; rintro e w5 ⟨v5, rfl, rfl, h5⟩; have H5 := Lib.hid h5; clear h5)
              | fail)
            go_meet
            exact ⟨rfl, rfl, H5⟩
          · go_wp2_with fail
            go_meet
            exact ⟨rfl, rfl, HC⟩
          · go_wp2_with fail
            go_meet
            exact ⟨rfl, rfl, HC⟩
        case rest =>
          obtain ⟨rfl, hf, HD⟩ := hcut
          clear HC F1 F2 F3 d0 k80 k81 k82 k90 k91 k92 k00 k01 k02
          have hfk := fun h => fired_kind (d := ⟨dk, p, x, v⟩) (i := k) (l := τ.ws) h
          obtain ⟨fb, hfb⟩ : ∃ b, (fireW false τ.ws (keysW ⟨dk, p, x, v⟩ k)).1 = b := ⟨_, rfl⟩
          rw [hfb] at hf hfk
          have HFB := Lib.hid hfb
          clear hfb
          subst hf
          cases fb
          · clear hfk
            go_wp2
            go_roundw
            case rel => exact ⟨k + 1, NA, NC, by omega, by go_num, Lib.hid (by rw [HN.out]; unfold tell1; rw [HFB.out, if_neg (by decide)]; exact HD.out.tl.tl.tl)⟩
            case measure => simp [intOf]; omega
          · obtain ⟨c1, c3⟩ := hfk rfl
            have c1 : 1 ≤ dk := c1
            have c3 : dk ≤ 3 := c3
            have HV := Lib.hid (HKW.out c3)
            have d1 := HD.out.lay.cellB 3 rfl 1 (by omega)
            have p2 := HD.out.lay.cellB 4 rfl 2 (by omega)
            have g0 : _ = some (gF NA NC τ.nt k) := HD.out.lay.cell1 5 rfl (j := k) hlt
            simp only [cellsD, ofL_1, ofL_2] at d1 p2
            simp only [gF] at g0
            have hpl : LayM w0 wc.drew ((⟨NA k, 38, 2, (τ.nt k).length, NC k, ntF (τ.nt k)⟩ : LRow) :: (keysL t8 t9 t10 t3 k p ⟨dk, p, x, v⟩ ++ restW pb tb mb gn NA NC τ.nt R k)) _ := wn_pull (keysL t8 t9 t10 t3 k p ⟨dk, p, x, v⟩) HD.out.drew hlt
            obtain ⟨l, hl⟩ : ∃ l, τ.nt k = l := ⟨_, rfl⟩
            rw [hl] at g0 HLE hpl
            have HP := Lib.hid hpl
            have HL := Lib.hid hl
            have hle := HLE.out
            clear hpl hl
            have HO1 : Hid (∀ j, j < 1 * 2 → (ofL [Value.int .i64 kv, .string (bs p)] j).oneCell' = true) := Lib.hid (fun j hj => by
              rcases (by omega : j = 0 ∨ j = 1) with rfl | rfl <;> rfl)
            have HLN : Hid ((l ++ [(dk.toNat, p)]).length = l.length + 1) := Lib.hid (by simp)
            go_wp2
            refine wp_held_mask (fun W => W.cell? ⟨pb, 2, none⟩ = some (.slice (some ⟨gn, 0, none⟩) 6 6) ∧ W.cell? ⟨gn, k, none⟩ = some (.slice (NA k) l.length (NC k)) ∧ W.cell? ⟨t3, 1, none⟩ = some (.string (bs p))) [true, true, true, true, true, true, true, true, true, true, true, true, true, true, true, false, false, false, false, false] ?A1 (by kernel_rfl) rfl (by kernel_rfl) (by repeat' (first | (with_reducible apply tame_then) | (with_reducible apply tame_block) | (with_reducible apply tame_scope) | exact tame_gives | exact tame_body (fun _ _ h => ⟨_, h.1⟩))) ⟨p2, g0, d1⟩ ?head ?tail
            case head =>
              intro W5 ⟨s0, s1, s2⟩
              simp only [pick]
              go_wp2
              exact taken
            case tail =>
              simp only [pick, List.map_cons, List.map_nil, Bool.not_true, Bool.not_false]
              refine tail_step ?_
              go_wp2
              refine holds ⟨p2, g0, d1⟩ ?_
              clear p2 g0 d1
              refine tail_step ?_
              go_wp2
              refine holds ⟨(HP.out.alloc _).lay.cellB 5 rfl 2 (by omega), ((HP.out.alloc _).lay.cell1 6 rfl (j := k) hlt).trans (by rw [← HL.out]), (HP.out.alloc _).lay.cellB 4 rfl 1 (by omega)⟩ ?_
              refine tail_step ?_
              go_wp2_with (at_builtin; revert HLN)
              intro HLN
              refine wpList_ap rfl (.tmp 76) (.tmp 81) _ rfl 38 iN _ 2 24 Tryd.underlying36 hiN hzN0 hzN1 hzN2 rfl (by omega) w0.heap.size (n := l.length) rfl ((HP.out.alloc _).lay.own 0 _ rfl) (B := wc.heap.size + 1) (m := 1) (g := ofL [.int .i64 kv, .string (bs p)]) rfl ?hr HO1.out (ntF (l ++ [(dk.toNat, p)])) (fun j hj => ntF_old l _ hj) (fun j hj => by rw [HV.out]; exact ntF_new l _ _ j hj) (l ++ [(dk.toNat, p)]).length HLN.out.symm (by unfold maxLen; omega) (by omega) (HP.out.alloc _).size ?_
              case hr =>
                refine cell_new wc.drew _ _ _ wc.heap.size rfl (fun j hj => ?_)
                rcases (by omega : j = 0 ∨ j = 1) with rfl | rfl <;> rfl
              intro A2 c2 w5 ho hg hh
              have H4 := Lib.hid ((HP.out.alloc _).app 0 rfl ho hg hh)
              clear ho hg hh
              refine holds ⟨H4.out.lay.cellB 5 rfl 2 (by omega), (H4.out.lay.cell1 6 rfl (j := k) hlt).trans (by rw [← HL.out]), H4.out.lay.cellB 4 rfl 1 (by omega)⟩ ?_
              refine tail_step ?_
              go_wp2
              refine holds ⟨H4.out.lay.cellB 5 rfl 2 (by omega), (H4.out.lay.cell1 6 rfl (j := k) hlt).trans (by rw [← HL.out]), H4.out.lay.cellB 4 rfl 1 (by omega)⟩ ?_
              refine tail_last ?_
              have g1 := H4.out.lay.cell1 6 rfl (j := k) hlt
              have z1 := H4.out.lay.frz 6 rfl (by omega) k
              have HF := Lib.hid (wn_put (keysL t8 t9 t10 t3 k p ⟨dk, p, x, v⟩) A2 c2 (l ++ [(dk.toNat, p)]) (H4.out.set 6 (gF (vset NA k A2) (vset NC k c2) (vset τ.nt k (l ++ [(dk.toNat, p)]))) (j := k) (u := .slice A2 (l.length + 1) c2) rfl (by omega) ((gF_set _ _ _).1.trans (by rw [HLN.out])) (fun i _ hi => (gF_set _ _ _).2 i hi)) hlt)
              go_wp2
              go_roundw
              case rel => exact ⟨k + 1, _, _, by omega, by go_num, Lib.hid (by rw [HN.out]; unfold tell1; rw [HFB.out, if_pos rfl, HL.out]; exact HF.out.tl.tl.tl)⟩
              case measure => simp [intOf]; omega
    · obtain rfl : k = 6 := by omega
      go_wp2
      refine bodyPost_ret (v := .tuple #[]) (by simp [results, Tryd.results21, go_sem]) rfl ?_
      exact ⟨_, rfl, NA, NC, rfl, HQ.out.tl⟩
end Go.Proofs.YtfdgjbanajodfaaDoor
