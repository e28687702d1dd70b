/- merge's layout; the walk of 'has'. -/
import Derived.Test.YtdgegbdkimdpjaaMeMath
import Derived.Test.YtdgegbdkimdpjaaKeyS
import Derived.Test.YtdgegbdkimdpjaaPhase
import Derived.Test.YtdgegbdkimdpjaaMix
import Derived.Test.YtdgegbdkimdpjaaUpdE
import Derived.BigQuiet
import Derived.Deep.QuietTactic
import Derived.Deep.LoopGhost
set_option linter.unusedVariables false
set_option linter.unusedSimpArgs false
namespace Go.Proofs.Ytdgegbdkimdpjaa
open Go.RowKit Go.Maps Go.MapKept

theorem infoTag : (Try.prog.info? 58).map (fun i => (i.zero, i.size, i.bytes)) = some (some (.agg #[.int .i64 0, .int .i64 0]), 2, 16) := by kernel_rfl
theorem zeroBoolM (u : World) : (zeroValue 4).run Try.prog u = .ok (.bool false) u := by kernel_rfl
/-- A list of tags, in memory. -/
def tagF (l : List Tag) (j : Nat) : Value := if j % 2 = 0 then .int .i64 ((l.getD (j / 2) (0, 0)).1 : Nat) else .int .i64 ((l.getD (j / 2) (0, 0)).2 : Nat)
abbrev tagR (A : Option Addr) (cap : Nat) (l : List Tag) : LRow := ⟨A, 58, 2, l.length, cap, tagF l⟩
theorem tagF_old (l : List Tag) (p : Tag) {j : Nat} (h : j < l.length * 2) : tagF (l ++ [p]) j = tagF l j := by
  unfold tagF
  have : j / 2 < l.length := by omega
  rw [List.getD_eq_getElem?_getD, List.getElem?_append_left this, ← List.getD_eq_getElem?_getD]
theorem tagF_new (l : List Tag) (p : Tag) {j : Nat} (h : j < 2) : tagF (l ++ [p]) (l.length * 2 + j) = if j = 0 then .int .i64 (p.1 : Nat) else .int .i64 (p.2 : Nat) := by
  unfold tagF
  have h1 : (l.length * 2 + j) / 2 = l.length := by omega
  have h2 : (l.length * 2 + j) % 2 = j := by omega
  rw [h1, h2, List.getD_eq_getElem?_getD, List.getElem?_append_right (Nat.le_refl _), Nat.sub_self]
  rfl
/-- What 'has' has found, of what was seen. -/
structure HasI (es : Array MapEntry) (seen : Array Nat) (co : Tag → Bool) (x : Nat) (l : List Tag) : Prop where
  mem : ∀ t, t ∈ l ↔ SeenK keyT es seen t ∧ t.1 = x ∧ co t = false
  nd : l.Nodup
theorem HasI.zero (es : Array MapEntry) (co : Tag → Bool) (x : Nat) : HasI es #[] co x [] := ⟨fun t => ⟨fun h => by simp at h, fun h => absurd h.1 (seenK_none _ _ _)⟩, List.nodup_nil⟩
theorem HasI.no {es : Array MapEntry} {clock : Nat} {seen : Array Nat} {co : Tag → Bool} {x : Nat} {l : List Tag} (h : HasI es seen co x l) (st : Stamped es clock) {e : MapEntry} (he : e ∈ es.toList) {p : Tag} (hk : e.key = keyT p) (hp : ¬ (p.1 = x ∧ co p = false)) : HasI es (seen.push e.born) co x l := by
  refine ⟨fun t => ?_, h.nd⟩
  rw [h.mem, seenK_push keyT_inj st he hk]
  constructor
  · rintro ⟨a, b⟩; exact ⟨.inl a, b⟩
  · rintro ⟨a | rfl, b⟩
    · exact ⟨a, b⟩
    · exact absurd b hp
theorem HasI.yes {es : Array MapEntry} {clock : Nat} {seen : Array Nat} {co : Tag → Bool} {x : Nat} {l : List Tag} (h : HasI es seen co x l) (st : Stamped es clock) {e : MapEntry} (he : e ∈ es.toList) {p : Tag} (hk : e.key = keyT p) (hns : seen.contains e.born = false) (hp : p.1 = x ∧ co p = false) : HasI es (seen.push e.born) co x (l ++ [p]) := by
  refine ⟨fun t => ?_, ?_⟩
  · rw [List.mem_append, List.mem_singleton, h.mem, seenK_push keyT_inj st he hk]
    constructor
    · rintro (⟨a, b⟩ | rfl)
      · exact ⟨.inl a, b⟩
      · exact ⟨.inr rfl, hp⟩
    · rintro ⟨a | a, b⟩
      · exact .inl ⟨a, b⟩
      · exact .inr a
  · refine List.nodup_append.2 ⟨h.nd, List.nodup_cons.2 ⟨by simp, List.nodup_nil⟩, fun a ha b hb e1 => ?_⟩
    obtain rfl := List.mem_singleton.1 hb
    subst e1
    exact seenK_fresh st he hk hns ((h.mem a).1 ha).1
/-- A list without twins below 61. -/
theorem nodup_len : ∀ (n : Nat) (l : List Nat), l.Nodup → (∀ x, x ∈ l → x < n) → l.length ≤ n
  | 0, l, _, h => by
    rcases l with _ | ⟨a, l⟩
    · exact Nat.le_refl _
    · exact absurd (h a (by simp)) (by omega)
  | n + 1, l, hn, h => by
    have h1 := nodup_len n (l.filter (fun x => x != n)) (hn.sublist List.filter_sublist) (fun x hx => by
      obtain ⟨h2, h3⟩ := List.mem_filter.1 hx
      have := h x h2
      have : x ≠ n := by simpa using h3
      omega)
    have h2 : l.length ≤ (l.filter (fun x => x != n)).length + 1 := by
      clear h1 h
      induction l with
      | nil => simp
      | cons a l ih =>
        rw [List.nodup_cons] at hn
        by_cases e : a = n
        · subst e
          have : l.filter (fun x => x != a) = l := List.filter_eq_self.2 fun y hy => by
            have : y ≠ a := fun e => hn.1 (e ▸ hy)
            simpa using this
          rw [List.filter_cons]
          simp [this]
        · have hb : (a != n) = true := by simpa using e
          rw [List.filter_cons, if_pos hb, List.length_cons, List.length_cons]
          have := ih hn.2
          omega
    omega
theorem HasI.len {es : Array MapEntry} {seen : Array Nat} {ci co : Tag → Bool} {cl x : Nat} {l : List Tag} (h : HasI es seen co x l) (hc : setE ci es cl) (hb : ∀ t, ci t = true → t.2 ≤ 60) : l.length ≤ 61 := by
  rw [← List.length_map (f := fun t : Tag => t.2)]
  refine nodup_len 61 _ ?_ ?_
  · rw [List.Nodup, List.pairwise_map]
    refine List.Pairwise.imp_of_mem (fun {a b} ha hb hne e => hne ?_) h.nd
    exact Prod.ext (((h.mem a).1 ha).2.1.trans ((h.mem b).1 hb).2.1.symm) e
  · intro y hy
    obtain ⟨t, ht, rfl⟩ := List.mem_map.1 hy
    obtain ⟨e, he, hk, _⟩ := ((h.mem t).1 ht).1
    obtain ⟨p, hp, hk2⟩ := setE_mem hc he
    have : t = p := keyT_inj _ _ (hk.symm.trans hk2)
    have := hb t (this ▸ hp)
    show t.2 < 61
    omega
theorem Rng.app {w w' : World} {b r : Nat} {es : Array MapEntry} {c : Nat} {seen : Array Nat} (h : Rng w b r es c seen) {base : Nat} {e : TypeId} {sz : Nat} {A : Option Addr} {n cap : Nat} {F : Nat → Value} (ho : Own w base e sz A n cap F) (hg : w.grownBy w' (ablock A)) : Rng w' b r es c seen := by
  have hne : ∀ g o, w.heap[g]? = some o → (∀ x y z, o ≠ .cells x y z) → some g ≠ ablock A := by
    intro g o ho2 hno e1
    rcases ho with ⟨rfl, _⟩ | ⟨g', cur, rfl, _, h2, _⟩
    · cases e1
    · have : g = g' := by simpa [ablock] using e1
      subst this
      rw [ho2] at h2
      injection h2 with h2
      exact hno _ _ _ h2
  obtain ⟨c0, h1, _⟩ := h.it
  exact h.kept (hg.block b h.lt.2 (hne b _ h.mp (fun _ _ _ e => by cases e))) (hg.block r h.lt.1 (hne r _ h1 (fun _ _ _ e => by cases e)))
section
variable {α : Type} {w0 : World} {L : List LRow} {Q : List MRow} {e : α → TypeId} {f : α → Value} {q : α → List Value}
set_option maxRecDepth 100000 in
set_option maxHeartbeats 1600000 in
theorem has_any (gr off bi bo ki ko x : Nat) (ci co : Tag → Bool) (w : World) (hx : x ≤ 8) (hbd : ∀ t, ci t = true → t.1 ≤ 8 ∧ t.2 ≤ 60) (hki : Q[ki]? = some ⟨bi, setE ci⟩) (hko : Q[ko]? = some ⟨bo, setE co⟩)
    (hcell : ∀ (W : World) (r : LRow), LayQ w0 W (r :: L) Q e f q → W.cell? ⟨gr, off, none⟩ = some (.map (some bi)) ∧ W.cell? ⟨gr, off + 1, none⟩ = some (.map (some bo))) (h : LayQ w0 w L Q e f q) :
    Calls Try.prog 16 #[.pointer (some ⟨gr, off, none⟩), .int .i64 x] w (Gives fun v w' => ∃ (A : Option Addr) (cap : Nat) (l : List Tag), v = .slice A l.length cap ∧ l.length ≤ 61 ∧ (∀ t, t ∈ l ↔ ci t = true ∧ t.1 = x ∧ co t = false) ∧ LayQ w0 w' (tagR A cap l :: L) Q e f q) := by
  have H := Lib.hid h; clear h
  have HC := Lib.hid hcell; clear hcell
  obtain ⟨iT, hiT, hzT0, hzT1, hzT2⟩ := info_parts infoTag
  have H1 : Hid (LayQ w0 w (tagR none 0 [] :: L) Q e f q) := Lib.hid (H.out.lnil _ _ _)
  obtain ⟨es, c, hb, hset⟩ := H.out.mp ki hki
  have hb : w.heap[bi]? = some (.map es c) := hb
  have HS : Hid (setE ci es c) := Lib.hid hset
  have hst := setE_st HS.out
  clear hset H
  obtain ⟨hc0, -⟩ := HC.out _ _ H1.out
  have hw0 := H1.out.size
  go_enter Try.func16, Try.ntmps16
  go_wp2_with (first
    | (at_range; refine wpList_rangeE rfl (.tmp 10) _ rfl Try.underlying47 rfl hb ?_; intro w5 hw5 hrg5; have HR5 := Lib.hid hrg5; have HM5 : Hid (LayQ w0 w5 (tagR none 0 [] :: L) Q e f q) := Lib.hid (by rw [hw5]; exact H1.out.alloc _); clear hw5 hrg5)
    | fail)
  clear hb H1 hc0
  generalize w.heap.size = r at HR5 hw0 ⊢
  try go_frame
  go_loopw [5] (fun lv wr => ∃ (seen : Array Nat) (A : Option Addr) (cap : Nat) (l : List Tag), lv = .slice A l.length cap ∧ Hid (Rng wr bi r es c seen) ∧ Hid (HasI es seen co x l) ∧ Hid (LayQ w0 wr (tagR A cap l :: L) Q e f q)) (fun _ wr => wr.rangeLeft bi r)
  case atStart => exact ⟨#[], none, 0, [], rfl, HR5, Lib.hid (HasI.zero es co x), HM5⟩
  case round =>
    clear HR5 HM5
    obtain ⟨seen, A, cap, l, rfl, HR3, HI, HM⟩ := hrel
    obtain ⟨w6, rfl⟩ : ∃ w6, w6 = wr := ⟨_, rfl⟩
    have hl61 := HI.out.len HS.out (fun t ht => (hbd t ht).2)
    go_wp2_with (first
      | (at_next; refine wpList_nextE rfl (.tmp 11) rfl rfl HR3.out hst ?_ ?_)
      | fail)
    · intro h0'
      have h0 : (leftOf es seen).size = 0 := by simpa using h0'
      have HALL : Hid (∀ t, t ∈ l ↔ ci t = true ∧ t.1 = x ∧ co t = false) := Lib.hid fun t => by
        rw [HI.out.mem]
        constructor
        · rintro ⟨⟨e, he, hk, _⟩, h2⟩
          obtain ⟨p, hp, hk2⟩ := setE_mem HS.out he
          have : t = p := keyT_inj _ _ (hk.symm.trans hk2)
          exact ⟨this ▸ hp, h2⟩
        · rintro ⟨h1, h2⟩
          exact ⟨seenK_all h0 (setE_has HS.out h1), h2⟩
      clear h0 h0'
      go_wp2
      go_ret
      exact ⟨_, rfl, A, cap, l, rfl, hl61, HALL.out, HM.out⟩
    · intro e1 w7 hem' hns hrg hlt hgr hsz hen
      have hem : e1 ∈ es.toList := by simpa using hem'
      obtain ⟨p, hp, hk⟩ := setE_mem HS.out hem
      obtain ⟨p1, p2⟩ := p
      obtain ⟨hp8, hp60⟩ := hbd _ hp
      have hp8 : p1 ≤ 8 := hp8
      have hp60 : p2 ≤ 60 := hp60
      have HM6 := Lib.hid (HM.out.turned hgr HR3.out hw0)
      have HLQ : Hid (w6.rangeLeft bi r = (leftOf es seen).size) := Lib.hid HR3.out.left_eq
      have HLT2 := Lib.hid hlt
      have HK := Lib.hid hk
      have HEM := Lib.hid hem
      have HNS := Lib.hid hns
      have hs7 : w7.heap.size = w7.heap.size := rfl
      have HR7 := Lib.hid (hrg.alloc (.cells #[.int .i64 (p1 : Nat), .int .i64 (p2 : Nat)] 58))
      have HM7 := Lib.hid (HM6.out.alloc (.cells #[.int .i64 (p1 : Nat), .int .i64 (p2 : Nat)] 58))
      have HLE : Hid ((w7.alloc (.cells #[.int .i64 (p1 : Nat), .int .i64 (p2 : Nat)] 58)).rangeLeft bi r = (leftOf es (seen.push e1.born)).size) := Lib.hid HR7.out.left_eq
      rw [hk] at hen ⊢
      unfold keyT at hen ⊢
      clear hem hem' hns hlt hgr hsz hrg hk HM6
      go_wp2_with fail
      have d0 : (w7.alloc (.cells #[.int .i64 (p1 : Nat), .int .i64 (p2 : Nat)] 58)).cell? ⟨w7.heap.size, 0, none⟩ = some (.int .i64 (p1 : Nat)) := by rw [World.cell?_alloc_new]; rfl
      have d1 : (w7.alloc (.cells #[.int .i64 (p1 : Nat), .int .i64 (p2 : Nat)] 58)).cell? ⟨w7.heap.size, 1, none⟩ = some (.int .i64 (p2 : Nat)) := by rw [World.cell?_alloc_new]; rfl
      generalize (w7.alloc (.cells #[.int .i64 (p1 : Nat), .int .i64 (p2 : Nat)] 58)) = W at d0 d1 HR7 HM7 HLE ⊢
      generalize w7.heap.size = q6 at d0 d1 ⊢
      obtain ⟨c0, c1⟩ := HC.out _ _ HM7.out
      obtain ⟨es2, cl2, hb2, hset2⟩ := HM7.out.drew.mp ko hko
      have hl : (Instr.lookup 47 (.map (some bo)) (.agg #[.int .i64 (p1 : Nat), .int .i64 (p2 : Nat)]) false).run Try.prog W.drew = .ok (.bool (co (p1, p2))) W.drew := setE_look hset2 hb2 (zeroBoolM _) (p1, p2) (by omega) (by omega)
      clear hb2 hset2
      have hst2 := Lib.hid hst
      by_cases hpx : p1 = x
      · have e2 : ((p1 : Int) == (x : Int)) = true := by rw [beq_iff_eq]; omega
        cases hco : co (p1, p2)
        · have HI2 := Lib.hid (HI.out.yes hst HEM.out HK.out (by simpa using HNS.out) ⟨hpx, hco⟩)
          rw [hco] at hl
          clear hpx hco
          have HA := Lib.hid (HM7.out.drew.alloc (.cells #[.int .i64 (p1 : Nat), .int .i64 (p2 : Nat)] 58))
          have HRA := Lib.hid (HR7.out.sim (w' := W.drew) ⟨rfl, rfl, rfl, rfl⟩)
          have HRA := Lib.hid (HRA.out.alloc (.cells #[.int .i64 (p1 : Nat), .int .i64 (p2 : Nat)] 58))
          obtain ⟨k, hk⟩ : ∃ k, k = l.length := ⟨_, rfl⟩
          have HKL := Lib.hid hk
          rw [← hk] at hl61
          clear hk
          have HX : Hid (Rd (W.drew.alloc (.cells #[.int .i64 (p1 : Nat), .int .i64 (p2 : Nat)] 58)) (W.drew.heap.size + 1) (some ⟨W.drew.heap.size, 0, none⟩) (1 * 2) (fun j => if j = 0 then .int .i64 (p1 : Nat) else .int .i64 (p2 : Nat))) := Lib.hid (cell_new W.drew _ _ (n := 2) _ _ rfl (fun j hj => by
            rcases (show j = 0 ∨ j = 1 by omega) with rfl | rfl <;> rfl))
          go_wp2
          refine wp_text_all (by kernel_rfl) (by kernel_rfl) (by kernel_rfl) (by repeat' (first | (with_reducible apply tame_then) | (with_reducible apply tame_block) | (with_reducible apply tame_scope) | exact tame_gives | exact tame_body (fun _ _ h => ⟨_, h.1⟩))) ?_
          go_wp2
          refine headed ?_
          go_wp2_with (first
            | (at_builtin; refine wpList_ap rfl (.tmp 29) (.tmp 31) _ rfl 58 iT _ 2 16 Try.underlying51 hiT hzT0 hzT1 hzT2 rfl (by omega) w0.heap.size rfl (HA.out.lay.own 0 _ rfl) rfl HX.out (fun j _ => by split <;> rfl) (tagF (l ++ [(p1, p2)])) (fun j hj => tagF_old l _ hj) (fun j hj => tagF_new l _ (by omega)) (l ++ [(p1, p2)]).length (by simp) (by rw [← HKL.out]; unfold maxLen; omega) (by rw [← HKL.out]; omega) HA.out.size ?_
               intro A5 c5 w5 ho hg ha
               have HL7 : Hid (LayQ w0 w5 (tagR A5 c5 (l ++ [(p1, p2)]) :: L) Q e f q) := Lib.hid (HA.out.app 0 rfl ho hg ha)
               have HR9 : Hid (Rng w5 bi r es c (seen.push e1.born)) := Lib.hid (Rng.app HRA.out (HA.out.lay.own 0 _ rfl) hg)
               clear ho hg ha HA HX)
            | fail)
          go_roundw
          case rel => exact ⟨_, A5, c5, l ++ [(p1, p2)], by simp, HR9, HI2, HL7⟩
          case measure => rw [HR9.out.left_eq, HLQ.out]; exact HLT2.out
        · have HI2 := Lib.hid (HI.out.no hst HEM.out HK.out (fun h => by rw [hco] at h; cases h.2))
          rw [hco] at hl
          clear hpx hco
          go_wp2
          refine wp_text_all (by kernel_rfl) (by kernel_rfl) (by kernel_rfl) (by repeat' (first | (with_reducible apply tame_then) | (with_reducible apply tame_block) | (with_reducible apply tame_scope) | exact tame_gives | exact tame_body (fun _ _ h => ⟨_, h.1⟩))) ?_
          go_wp2
          refine headed ?_
          go_wp2
          go_roundw
          case rel => exact ⟨_, A, cap, l, rfl, Lib.hid (HR7.out.sim ⟨rfl, rfl, rfl, rfl⟩), HI2, Lib.hid HM7.out.drew⟩
          case measure => show W.rangeLeft bi r < _; rw [HLE.out, HLQ.out]; exact HLT2.out
      · have e2 : ((p1 : Int) == (x : Int)) = false := by rw [beq_eq_false_iff_ne]; omega
        have HI2 := Lib.hid (HI.out.no hst HEM.out HK.out (fun h => hpx h.1))
        clear hpx hl
        go_wp2
        refine wp_text_all (by kernel_rfl) (by kernel_rfl) (by kernel_rfl) (by repeat' (first | (with_reducible apply tame_then) | (with_reducible apply tame_block) | (with_reducible apply tame_scope) | exact tame_gives | exact tame_body (fun _ _ h => ⟨_, h.1⟩))) ?_
        go_wp2
        refine headed ?_
        go_wp2
        go_roundw
        case rel => exact ⟨_, A, cap, l, rfl, Lib.hid (HR7.out.sim ⟨rfl, rfl, rfl, rfl⟩), HI2, Lib.hid HM7.out.drew⟩
        case measure => show W.rangeLeft bi r < _; rw [HLE.out, HLQ.out]; exact HLT2.out
end
end Go.Proofs.Ytdgegbdkimdpjaa
