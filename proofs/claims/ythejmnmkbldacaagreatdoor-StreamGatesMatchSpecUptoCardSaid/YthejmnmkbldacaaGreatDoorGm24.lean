/-
  What is proved: the reference's gate brings its mark up to date as the program's does; its Mark and Idle. Conditions: none.
  What is proved: copyDeltas returns equal differences in new memory. Conditions: no list has 2^30 elements or more.
  What is proved: the rule for a region that draws (Tab), where its first operation is a copy that the tail does not wait for: it is taken first. Conditions: none. No program in sight.
-/
import Derived.Test.YthejmnmkbldacaaGreatDoorGm23
import Derived.Test.YthejmnmkbldacaaGreatDoorGm14
import Derived.Test.YthejmnmkbldacaaGreatDoorGm02
set_option linter.all false
namespace Go.Proofs.YthejmnmkbldacaaGreatDoor
open Go.RowKit
attribute [local go_sem] Tab.Env.ev Tab.Env.get

/-- the reference's least mark -/
def leastR : List Src → Int × Bool → Int × Bool
  | [], a => a
  | s :: l, a => leastR l (if s.2 = false ∧ (a.2 = false ∨ s.1 < a.1) then (s.1, true) else a)
theorem least_same : ∀ (l : List Src) (a b : Int × Bool), (∀ s, s ∈ l → Mom s.1) → a.2 = b.2 → (b.2 = true → a.1 = b.1) → (b.2 = false → a.1 = 253402300799) → (leastOf l a).2 = (leastR l b).2 ∧ ((leastR l b).2 = true → (leastOf l a).1 = (leastR l b).1)
  | [], a, b, _, h1, h2, _ => ⟨h1, h2⟩
  | (s1, s2) :: l, (a1, a2), (b1, b2), hs, h1, h2, h3 => by
    rw [leastOf, leastR]
    have hm := hs (s1, s2) (by simp)
    unfold Mom at hm
    simp only at h1 h2 h3 hm ⊢
    subst h1
    have ht : ∀ t, t ∈ l → Mom t.1 := fun t ht => hs t (List.mem_cons_of_mem _ ht)
    cases s2 with
    | true => simpa using least_same l (a1, a2) (b1, a2) ht rfl h2 h3
    | false =>
      cases a2 with
      | false =>
        have e := h3 rfl
        subst e
        have e : min 253402300799 s1 = s1 := by omega
        simpa [e] using least_same l (s1, true) (s1, true) ht rfl (fun _ => rfl) (fun e => by cases e)
      | true =>
        have e := h2 rfl
        subst e
        by_cases hlt : s1 < a1
        · have e : min a1 s1 = s1 := by omega
          simpa [e, hlt] using least_same l (s1, true) (s1, true) ht rfl (fun _ => rfl) (fun e => by cases e)
        · have e : min a1 s1 = a1 := by omega
          simpa [e, hlt] using least_same l (a1, true) (a1, true) ht rfl (fun _ => rfl) (fun e => by cases e)
theorem advD_ref {D : GateD} (h : D.ok) : advD D = if (leastR D.srcs (0, false)).2 = true ∧ D.mark < (leastR D.srcs (0, false)).1 then { D with mark := (leastR D.srcs (0, false)).1 } else D := by
  obtain ⟨h1, h2⟩ := least_same D.srcs (253402300799, false) (0, false) h.srcs rfl (fun e => by cases e) (fun _ => rfl)
  obtain ⟨⟨lm, lb⟩, hl⟩ : ∃ p, leastOf D.srcs (253402300799, false) = p := ⟨_, rfl⟩
  obtain ⟨⟨rm, rb⟩, hr⟩ : ∃ p, leastR D.srcs (0, false) = p := ⟨_, rfl⟩
  rw [hl, hr] at h1 h2
  rw [hr]
  simp only at h1 h2
  subst h1
  unfold advD
  rw [hl]
  cases lb with
  | false => simp
  | true =>
    have e := h2 rfl
    subst e
    by_cases hlt : D.mark < lm
    · have e : max D.mark lm = lm := by omega
      simp [hlt, e]
    · have e : max D.mark lm = D.mark := by omega
      simp [hlt, e]
theorem leastR_take {l : List Src} {a : Int × Bool} {k : Nat} {s : Src} (h : l[k]? = some s) : leastR (l.take (k + 1)) a = if s.2 = false ∧ ((leastR (l.take k) a).2 = false ∨ s.1 < (leastR (l.take k) a).1) then (s.1, true) else leastR (l.take k) a := by
  induction l generalizing a k with
  | nil => simp at h
  | cons x l ih =>
    cases k with
    | zero =>
      simp at h
      subst h
      simp [leastR]
    | succ k =>
      simp at h
      rw [List.take_succ_cons, leastR, ih h, List.take_succ_cons, leastR]
theorem leastR_mom : ∀ (l : List Src) (a : Int × Bool), (∀ s, s ∈ l → Mom s.1) → (a.2 = true → Mom a.1) → (leastR l a).2 = true → Mom (leastR l a).1
  | [], a, _, h, e => h e
  | s :: l, a, hs, h, e => by
    rw [leastR] at e ⊢
    refine leastR_mom l _ (fun t ht => hs t (List.mem_cons_of_mem _ ht)) ?_ e
    split
    · exact fun _ => hs s (by simp)
    · exact h

theorem RGateM.keep {w w' : World} {base g : Nat} {D : GateD} {mv iv vw : Value} (h : RGateM w base g D mv iv vw) (hg : w'.heap[g]? = w.heap[g]?) (hm : ∀ b, mv.ownBlock = some b → w'.heap[b]? = w.heap[b]?) (hi : ∀ b, iv.ownBlock = some b → w'.heap[b]? = w.heap[b]?) : RGateM w' base g D mv iv vw :=
  ⟨hg.trans h.blk, own_keep h.mown hm, own_keep h.iown hi, h.bg, h.ok⟩
theorem RGateM.later {w w' : World} {base g : Nat} {D : GateD} {mv iv vw : Value} (h : RGateM w base g D mv iv vw) (hb : Below w.heap.size w w') : RGateM w' base g D mv iv vw :=
  h.keep (hb.block g h.blk.lt) (fun b e => hb.block b (h.mown.lt b e).2) (fun b e => hb.block b (h.iown.lt b e).2)
/-- the mark is set -/
theorem RGateM.setMark {w : World} {base g : Nat} {D : GateD} {mv iv vw : Value} (h : RGateM w base g D mv iv vw) (m : Int) (hm : Mom m) : RGateM (w.setCell ⟨g, 4, none⟩ (.int .i64 m)) base g { D with mark := m } mv iv vw :=
  ⟨h.blk.set_ 4 _, ownsRow_setCell_other h.mown (a := ⟨g, 4, none⟩) (own_blk_ne h.mown h.blk (by decide)) _, ownsRow_setCell_other h.iown (a := ⟨g, 4, none⟩) (own_blk_ne h.iown h.blk (by decide)) _, h.bg, ⟨h.ok.srcs, h.ok.some_, h.ok.few, h.ok.col, h.ok.coli, h.ok.del, h.ok.delb, hm⟩⟩
theorem RGateM.form {w : World} {base g : Nat} {D : GateD} {mv iv vw : Value} (h : RGateM w base g D mv iv vw) : ∃ bm cm bi ci, mv = .slice (some ⟨bm, 0, none⟩) D.srcs.length cm ∧ iv = .slice (some ⟨bi, 0, none⟩) D.srcs.length ci ∧ bm < w.heap.size ∧ bi < w.heap.size ∧ D.srcs.length ≤ cm ∧ D.srcs.length ≤ ci ∧ cm ≤ 9223372036854775807 ∧ ci ≤ 9223372036854775807 ∧ base ≤ bm ∧ base ≤ bi := by
  obtain ⟨bm, cm, e1, h1, h2, h3, h4⟩ := own_form h.mown (by have := h.ok.some_; omega)
  obtain ⟨bi, ci, e2, h5, h6, h7, h8⟩ := own_form h.iown (by have := h.ok.some_; omega)
  unfold maxLen at h4 h8
  exact ⟨bm, cm, bi, ci, e1, e2, h2, h6, h3, h7, by omega, by omega, h1, h5⟩
/-- what lies at source i -/
theorem RGateM.at_ {w : World} {base g : Nat} {D : GateD} {bm bi cm ci : Nat} {vw : Value} {i : Nat} (h : RGateM w base g D (.slice (some ⟨bm, 0, none⟩) D.srcs.length cm) (.slice (some ⟨bi, 0, none⟩) D.srcs.length ci) vw) (hi : i < D.srcs.length) :
    ∃ m b, D.srcs[i]? = some (m, b) ∧ w.cell? ⟨bm, i, none⟩ = some (.int .i64 m) ∧ w.cell? ⟨bi, i, none⟩ = some (.bool b) := by
  obtain ⟨⟨m, b⟩, hp⟩ : ∃ p, D.srcs[i] = p := ⟨_, rfl⟩
  have e : D.srcs[i]? = some (m, b) := by rw [List.getElem?_eq_getElem hi, hp]
  refine ⟨m, b, e, ?_, ?_⟩
  · rw [h.mown.cellAt i (by omega), List.getElem?_map, e]; rfl
  · rw [h.iown.cellAt i (by omega), List.getElem?_map, e]; rfl

set_option maxHeartbeats 400000 in
theorem markR_any (w : World) (base g : Nat) (D : GateD) (mv iv vw : Value) (h : RGateM w base g D mv iv vw) :
    Calls Tryz.prog 27 #[.pointer (some ⟨g, 0, none⟩)] w fun e w' => e = .returned (.int .i64 D.mark) ∧ w = w' := by
  have q := wcell6 h.blk
  clear h
  go_enter Tryz.func27, Tryz.ntmps27
  go_wp2_with fail
  go_ret
  exact ⟨rfl, rfl⟩

set_option maxHeartbeats 2000000 in
set_option maxRecDepth 100000 in
theorem move_any (w : World) (base g : Nat) (D : GateD) (mv iv vw : Value) (h : RGateM w base g D mv iv vw) :
    Calls Tryz.prog 75 #[.pointer (some ⟨g, 0, none⟩)] w fun e w' => e = .returned (.tuple #[]) ∧ RGateM w' base g (advD D) mv iv vw ∧ Tab.Ext (fun b => b = g) w w' := by
  have HADV := Lib.hid (advD_ref h.ok)
  have HMM := Lib.hid (leastR_mom D.srcs (0, false) h.ok.srcs (fun e => by cases e))
  obtain ⟨bm, cm, bi, ci, rfl, rfl, hbm, hbi, hcm, hci, hcm2, hci2, _, _⟩ := h.form
  have HG := Lib.hid h
  have q := wcell6 h.blk
  have f := h.blk.frozen 4
  have hgl := h.blk.lt
  have hfew := h.ok.few
  have hmk := h.ok.mkb
  unfold Mom at hmk
  obtain ⟨n, hn⟩ : ∃ n, D.srcs.length = n := ⟨_, rfl⟩
  have HN := Lib.hid hn
  rw [hn] at q hcm hci hfew
  clear h hn
  go_enter Tryz.func75, Tryz.ntmps75
  go_wp2_with fail
  go_loop [2, 3, 4, 10] (fun lv av _ i => ∃ k : Nat, k ≤ n ∧ i = .int .i64 k ∧ lv = .int .i64 (leastR (D.srcs.take k) (0, false)).1 ∧ av = .bool (leastR (D.srcs.take k) (0, false)).2) (fun _ _ _ i => n - (intOf i).toNat)
  case atStart => exact ⟨0, Nat.zero_le _, rfl, by simp [leastR], by simp [leastR]⟩
  case round =>
    obtain ⟨k, hk, rfl, rfl, rfl⟩ := hrel
    by_cases hlt : k < n
    · obtain ⟨m, b, hs, x1, x2⟩ := HG.out.at_ (i := k) (by rw [HN.out]; exact hlt)
      have HT := Lib.hid (leastR_take (a := (0, false)) hs)
      simp only at HT
      obtain ⟨⟨lv, av⟩, hla⟩ : ∃ p, leastR (D.srcs.take k) (0, false) = p := ⟨_, rfl⟩
      rw [hla] at HT ⊢
      clear hs hla
      cases b with
      | true =>
        have HX := Lib.hid (HT.out.trans (if_neg (by simp)))
        go_wp2_with fail
        go_round
        case rel => exact ⟨k + 1, hlt, by go_num, by rw [HX.out], by rw [HX.out]⟩
        case measure => simp [intOf] <;> omega
      | false =>
        cases av with
        | false =>
          have HX := Lib.hid (HT.out.trans (if_pos (by simp)))
          go_wp2_with fail
          go_round
          case rel => exact ⟨k + 1, hlt, by go_num, by rw [HX.out], by rw [HX.out]⟩
          case measure => simp [intOf] <;> omega
        | true =>
          by_cases hlm : m < lv
          · have hd : decide (m < lv) = true := by simp [hlm]
            have HX := Lib.hid (HT.out.trans (if_pos (by simp [hlm])))
            clear hlm
            go_wp2_with fail
            go_round
            case rel => exact ⟨k + 1, hlt, by go_num, by rw [HX.out], by rw [HX.out]⟩
            case measure => simp [intOf] <;> omega
          · have hd : decide (m < lv) = false := by simp; omega
            have HX := Lib.hid (HT.out.trans (if_neg (by simp; omega)))
            clear hlm
            go_wp2_with fail
            go_round
            case rel => exact ⟨k + 1, hlt, by go_num, by rw [HX.out], by rw [HX.out]⟩
            case measure => simp [intOf] <;> omega
    · obtain rfl : k = n := by omega
      have htk : D.srcs.take k = D.srcs := List.take_of_length_le (by rw [HN.out]; omega)
      rw [htk]
      obtain ⟨⟨lv, av⟩, hla⟩ : ∃ p, leastR D.srcs (0, false) = p := ⟨_, rfl⟩
      rw [hla] at HADV HMM ⊢
      clear hla htk
      cases av with
      | false =>
        have HX := Lib.hid (HADV.out.trans (if_neg (by simp)))
        go_wp2_with fail
        refine bodyPost_end (results_none rfl _ _ _) rfl ⟨rfl, ?_, Tab.Ext.refl _ _⟩
        rw [HX.out]
        exact HG.out
      | true =>
        by_cases hlm : D.mark < lv
        · have hd : decide (D.mark < lv) = true := by simp [hlm]
          have HX := Lib.hid (HADV.out.trans (if_pos ⟨rfl, hlm⟩))
          have HG2 := Lib.hid (HG.out.setMark lv (HMM.out rfl))
          clear hlm
          go_wp2_with fail
          refine bodyPost_end (results_none rfl _ _ _) rfl ⟨rfl, ?_, (Tab.Ext.refl (fun b => b = g) w).setCell (p := ⟨g, 4, none⟩) (.inl rfl) _⟩
          rw [HX.out]
          exact HG2.out
        · have hd : decide (D.mark < lv) = false := by simp; omega
          have HX := Lib.hid (HADV.out.trans (if_neg (fun h => hlm h.2)))
          clear hlm
          go_wp2_with fail
          refine bodyPost_end (results_none rfl _ _ _) rfl ⟨rfl, ?_, Tab.Ext.refl _ _⟩
          rw [HX.out]
          exact HG.out
end Go.Proofs.YthejmnmkbldacaaGreatDoor

namespace Go.Proofs.YthejmnmkbldacaaGreatDoor
open Go.RowKit
attribute [local go_sem] Tab.Env.ev Tab.Env.get

theorem cfCopyRow : ∀ (args : Array Value) (w : World), (callFunc 73 args).run Tryz.prog w = .ok (.enter 73 args) w := fun _ _ => by simp [go_sem]
/-- the differences of two lists have equal rows and numbers -/
def SameD (l l' : List DE) : Prop := l'.map (fun d => (d.row, d.n)) = l.map (fun d => (d.row, d.n))

set_option maxHeartbeats 2000000 in
theorem copyDeltas_any (F F' : Nat → Prop) (v : Value) (l : List DE) (w : World) (hr : RD w F F' v l) (hn : l.length < 1073741824) (hsm : ∀ d, d ∈ l → d.row.length < 1073741824 ∧ ∀ x, x ∈ d.row → smV x) :
    Calls Tryz.prog 61 #[v] w fun e w' => ∃ v' l', e = .returned v' ∧ RD w' (fun b => w.heap.size ≤ b) (fun b => w.heap.size ≤ b) v' l' ∧ SameD l l' ∧ Below w.heap.size w w' := by
  obtain ⟨hl, A, c, rfl, hc, hm, -⟩ := hr.sl
  unfold maxLen at hm
  have HR := Lib.hid hr
  have HSM := Lib.hid hsm
  clear hr hl hsm
  obtain ⟨n, hln⟩ : ∃ n, l.length = n := ⟨_, rfl⟩
  rw [hln] at hn hc ⊢
  have HN := Lib.hid hln
  clear hln
  go_enter Tryz.func61, Tryz.ntmps61
  go_wp2_with fail
  go_loopw [3, 5, 8] (fun s _ i wr => ∃ (k : Nat) (v : Value) (es : List DE), k ≤ n ∧ v = s ∧ i = .int .i64 k ∧ OwnDs wr w.heap.size (fun b => w.heap.size ≤ b) v es ∧ Hid (SameD (l.take k) es) ∧ Below w.heap.size w wr) (fun _ _ i _ => n - (intOf i).toNat)
  case atStart => exact ⟨0, _, [], Nat.zero_le _, rfl, rfl, OwnDs.nil _ _ _, Lib.hid (by simp [SameD]), Below.refl _ _⟩
  case round =>
    obtain ⟨k, v, es, hk, rfl, rfl, ho, HE, hbel⟩ := hrel
    have HO := Lib.hid ho
    by_cases hlt : k < n
    · have hlen : es.length = k := by
        have := congrArg List.length HE.out
        rw [List.length_map, List.length_map, List.length_take, HN.out] at this
        omega
      have hrr := HR.out.later hbel
      obtain ⟨b, off, c', A1, m1, c1, row, kk, hv, -, -, hb, he, hgd, q1, q2⟩ := hrr.at_ (i := k) (by rw [HN.out]; exact hlt)
      injection hv with e1 _ e2
      subst e1
      subst e2
      have hsmd := HSM.out _ (dat_mem (l := l) (i := k) (by rw [HN.out]; exact hlt))
      rw [he] at hsmd
      have HSMD := Lib.hid hsmd
      have HT := Lib.hid (show l.take (k + 1) = l.take k ++ [⟨.slice A1 m1 c1, row, kk⟩] by
        rw [List.take_succ_eq_append_getElem (by rw [HN.out]; exact hlt), ← dat_eq, he])
      have HLEN := Lib.hid hlen
      have HGD := Lib.hid hgd
      have hs2 : w.heap.size ≤ wr.heap.size := hbel.size
      clear hrr he hgd ho hlen hsmd
      go_wp2_with fail
      have hWb : Below wr.heap.size wr (wr.alloc (.cells #[.slice A1 m1 c1, .int .i64 kk] 86)) := below_new wr _
      have hWn : Blk (wr.alloc (.cells #[.slice A1 m1 c1, .int .i64 kk] 86)) wr.heap.size 86 [.slice A1 m1 c1, .int .i64 kk] := Blk.new wr 86 [.slice A1 m1 c1, .int .i64 kk]
      generalize hWdef : wr.alloc (.cells #[.slice A1 m1 c1, .int .i64 kk] 86) = W at *
      have p0 := fun w' (h : Tab.Ext (fun _ => False) W.drew w') => wcell2 (hWn.drew.ext h id)
      have HXW := Lib.hid (show ∀ w', Tab.Ext (fun _ => False) W.drew w' → Below wr.heap.size wr w' from fun w' h => hWb.trans (((Below.refl _ W).drew.trans (h.below.mono (Nat.le_refl _))).mono hWb.size))
      have hWs : wr.heap.size ≤ W.heap.size := hWb.size
      refine Tab.wp_region_tab_tail 8 (Tab.Ext fun _ => False) (by kernel_rfl) (by kernel_rfl) (by kernel_rfl) (fun _ => Tab.Ext.refl _ _) (fun _ _ _ h k => h.trans k) ?_
      iterate 3 (first | (refine Tab.tab_moveE _ rfl (Tab.silent_true _) (.inl rfl) rfl rfl (fun _ => Tab.Ext.refl _ _) ?_; apply Exists.intro; refine And.intro ?_ ?_; focus (simp [Tab.Env.ev, Tab.Env.get]; rfl)) | (refine Tab.tab_moveE _ rfl (Tab.silent_true _) (.inr rfl) rfl rfl (fun _ => Tab.Ext.refl _ _) ?_; apply Exists.intro; refine And.intro ?_ ?_; focus (simp [Tab.Env.ev, Tab.Env.get]; rfl)) | refine Tab.tab_skip rfl (Tab.silent_true _) rfl ?_ | (refine Tab.tab_repE rfl (Tab.silent_true _) rfl (fun _ _ h => by cases h) rfl (fun _ => Tab.Ext.refl _ _) ?_; apply Exists.intro; refine And.intro (fun l w' _ _ hw => ?_) ?_; focus (go_simp; rfl)) | (refine Tab.tab_repE rfl (Tab.silent_true _) rfl (fun _ _ h => by cases h) rfl (fun _ => Tab.Ext.refl _ _) ?_; apply Exists.intro; refine And.intro (fun l w' hs hc hw => ?_) ?_; focus (go_simp; rfl)))
      refine Tab.tab_callk (.ty fun v w' => RI w' (fun b => wr.heap.size ≤ b) v row) rfl (fun v w1 w2 hE hv => hv.ext hE (fun _ _ => id)) rfl rfl cfCopyRow rfl (fun l_ w' _ _ _ hw => ?_) ?_
      · show Calls _ _ #[.slice A1 m1 c1] w' _
        refine (copyRow_any _ (.slice A1 m1 c1) row w' (HGD.out.row.later (HXW.out w' hw)) HSMD.out.1 HSMD.out.2).mono ?_
        rintro e_ w_ ⟨v', rfl, hri, hb_⟩
        exact ⟨v', rfl, hri.mono (fun b hb _ => Nat.le_trans (HXW.out w' hw).size hb), Tab.Ext.of_below hb_, trivial⟩
      iterate 2 (first | (refine Tab.tab_moveE _ rfl (Tab.silent_true _) (.inl rfl) rfl rfl (fun _ => Tab.Ext.refl _ _) ?_; apply Exists.intro; refine And.intro ?_ ?_; focus (simp [Tab.Env.ev, Tab.Env.get]; rfl)) | (refine Tab.tab_moveE _ rfl (Tab.silent_true _) (.inr rfl) rfl rfl (fun _ => Tab.Ext.refl _ _) ?_; apply Exists.intro; refine And.intro ?_ ?_; focus (simp [Tab.Env.ev, Tab.Env.get]; rfl)) | refine Tab.tab_skip rfl (Tab.silent_true _) rfl ?_ | (refine Tab.tab_repE rfl (Tab.silent_true _) rfl (fun _ _ h => by cases h) rfl (fun _ => Tab.Ext.refl _ _) ?_; apply Exists.intro; refine And.intro (fun l w' _ _ hw => ?_) ?_; focus (go_simp; rfl)) | (refine Tab.tab_repE rfl (Tab.silent_true _) rfl (fun _ _ h => by cases h) rfl (fun _ => Tab.Ext.refl _ _) ?_; apply Exists.intro; refine And.intro (fun l w' hs hc hw => ?_) ?_; focus (go_simp; rfl)))
      refine Tab.tab_ty (.ty fun v w' => ∃ rv, v = .agg #[rv, .int .i64 kk] ∧ RI w' (fun b => wr.heap.size ≤ b) rv row) rfl (fun v w1 w2 hE ⟨rv, e, hv⟩ => ⟨rv, e, hv.ext hE (fun _ _ => id)⟩) rfl (fun listed a w' _ _ _ hw hx => ?_) ?_
      · have e15 := hx (.tmp 15) (by show Operand.tmp 15 ∈ #[Operand.tmp 15, Operand.tmp 17]; simp)
        have e17 := hx (.tmp 17) (by show Operand.tmp 17 ∈ #[Operand.tmp 15, Operand.tmp 17]; simp)
        simp only [Tab.Env.tyd, Tab.Env.knows, Tab.Env.get, Nat.reduceEqDiff, if_true, if_false, Tab.Ty.holds] at e15 e17
        have hr : ∀ p af gd, (execOp a.eval { dst := some 18, op := .build 86 #[(0, .tmp 15), (1, .tmp 17)], type := 86, pos := p, after := af, guard := gd }).run Tryz.prog w' = .ok (.value (.agg #[a.eval (.tmp 15), .int .i64 kk])) w' := by
          intro p af gd
          obtain ⟨A9, c9, _, _, e9, _⟩ := e15.shape
          rw [e9] at e15 ⊢
          clear hx
          generalize a.eval = ρ at *
          go_simp
        unfold Oper.wp
        rw [hr]
        exact ⟨_, rfl, ⟨_, rfl, e15⟩, Tab.Ext.refl _ _, trivial⟩
      refine Tab.tab_ty (.ty fun v w' => ∃ rv g, v = .slice (some ⟨g, 0, none⟩) 1 1 ∧ w.heap.size ≤ g ∧ Blk w' g 86 [rv, .int .i64 kk] ∧ RI w' (fun b => wr.heap.size ≤ b) rv row) rfl (fun v w1 w2 hE ⟨rv, g, e, hg, hb, hv⟩ => ⟨rv, g, e, hg, hb.ext hE id, hv.ext hE (fun _ _ => id)⟩) rfl (fun listed a w' _ _ _ hw hx => ?_) ?_
      · have e18 : ∃ rv, a.eval (.tmp 18) = .agg #[rv, .int .i64 kk] ∧ RI w' (fun b => wr.heap.size ≤ b) rv row := hx (.tmp 18) (by show Operand.tmp 18 ∈ #[Operand.tmp 18]; simp)
        have e19 : ∃ (p : Option Addr × Nat), a.eval (.tmp 18) = .agg #[.slice p.1 row.length p.2, .int .i64 kk] ∧ RI w' (fun b => wr.heap.size ≤ b) (.slice p.1 row.length p.2) row := by
          obtain ⟨rv, h1, hri⟩ := e18
          obtain ⟨A9, c9, _, _, e9, _⟩ := hri.shape
          subst e9
          exact ⟨(A9, c9), h1, hri⟩
        have h20 := e19.choose_spec
        generalize e19.choose = p9 at h20
        have hr : ∀ p af gd, (execOp a.eval { dst := some 19, op := .buildSlice 23 1 #[(0, .tmp 18)], type := 23, pos := p, after := af, guard := gd }).run Tryz.prog w' = .ok (.value (.slice (some ⟨w'.heap.size, 0, none⟩) 1 1)) (w'.alloc (.cells #[.slice p9.1 row.length p9.2, .int .i64 kk] 86)) := by
          intro p af gd
          have h21 := h20.1
          clear hx h20 e18 e19
          generalize a.eval = ρ at *
          go_simp
        unfold Oper.wp
        rw [hr]
        exact ⟨_, rfl, ⟨_, _, rfl, Nat.le_trans hs2 (HXW.out w' hw).size, Blk.new _ _ _, h20.2.later (below_new _ _)⟩, Tab.Ext.of_below (below_new _ _), trivial⟩
      intro a_ w_ hw_ hsat_
      refine Tab.fin_of_sat rfl ?_ hsat_
      simp only [Tab.fin, Act.put, List.setIfInBounds_toArray, List.set_cons_succ, List.set_cons_zero, List.drop_succ_cons, List.drop_zero]
      intro v15 _ v18 _ v19 ⟨rv, g, e19, hg, hblk, hri⟩
      obtain ⟨A9, c9, _, _, e9, _⟩ := hri.shape
      subst e9
      subst e19
      have hw_b := HXW.out w_ hw_
      have hbelw := hbel.trans (hw_b.mono hs2)
      have HOL := Lib.hid (HO.out.later hw_b)
      have hsw : wr.heap.size ≤ w_.heap.size := hw_b.size
      have HBLK := Lib.hid hblk
      have HRI := Lib.hid hri
      clear hsat_ hw_ hblk hri HXW p0 hWn hWb hWdef
      refine append_own3 w_ rfl (.tmp 12) (.tmp 19) 23 rfl w.heap.size 86 underD infoD rfl (by decide) _ _ _ (DE.cells ⟨.slice A9 row.length c9, row, kk⟩) rfl HOL.out.own g 0 1 1 rfl rfl (fun j u hj => ?_) (by simp [DE.cells, Value.oneCell']) (by rw [HLEN.out]; omega) (by decide) (by omega) ?_
      · rw [Nat.zero_add, HBLK.out.cell]
        exact hj
      intro v' w4 hown' hb4 hkept
      have hnb : ∀ b, wr.heap.size ≤ b → v.ownBlock ≠ some b := fun b hb he => by
        have := (HO.out.own.lt b he).2
        omega
      have O2 := Lib.hid (HOL.out.add (e := DE.mk (.slice A9 row.length c9) row kk) hown' hkept ⟨HRI.out.mono fun b hb _ => ⟨by show w.heap.size ≤ b; omega, hnb b hb⟩, HGD.out.n⟩)
      have hbel4 := hbelw.trans hb4
      have HE2 := Lib.hid (show SameD (l.take (k + 1)) (es ++ [DE.mk (.slice A9 row.length c9) row kk]) by
        have := HE.out
        unfold SameD at this ⊢
        rw [HT.out, List.map_append, List.map_append, this]
        rfl)
      clear hown' hb4 hkept hbelw hnb q1 q2
      go_wp2_with fail
      go_roundw
      case rel => exact ⟨k + 1, _, _, hlt, rfl, by go_num, O2.out, HE2, hbel4⟩
      case measure => simp [intOf] <;> omega
    · obtain rfl : k = n := by omega
      obtain ⟨hl, A1, c1, rfl, g1, g2, g3⟩ := SL.of_own ho.own
      have HLEN := Lib.hid (show es.length = k by have := congrArg List.length HE.out; rw [List.length_map, List.length_map, List.length_take, HN.out] at this; omega)
      rw [HLEN.out] at g1 g3 ⊢
      have HCL := Lib.hid (fun W => clipD_any A1 k c1 (fun h0 => by
        rcases Nat.eq_zero_or_pos k with h | h
        · exact h
        · obtain ⟨b, off, e, _⟩ := g3 h
          rw [h0] at e; cases e) g1 g2 W)
      clear g3 hl ho hk hlt
      have hdec : ¬ ((k : Int) < (k : Int)) := by omega
      go_wp2_with fail
      refine (HCL.out _).mono ?_
      rintro e w1 ⟨rfl, rfl⟩
      go_wp2_with fail
      go_ret
      have hrd := HO.out.rd
      have hsl := hrd.sl
      rw [HLEN.out] at hsl
      refine ⟨_, es, rfl, ⟨by rw [HLEN.out]; exact hsl.clip, hrd.good⟩, ?_, hbel⟩
      have := HE.out
      rw [← HN.out, List.take_length] at this
      exact this
end Go.Proofs.YthejmnmkbldacaaGreatDoor

namespace Go.Proofs.YthejmnmkbldacaaGreatDoor.Tab
open Go Go.RowKit
section sound
variable {P : Program} {ops : Array Oper} {Q : Exit → Act → World → Prop} {E : World → World → Prop} {C : Array Bool → World → Prop} {w0 : World} {a0 : Act}
theorem any_of_tableZ (z : Nat) {n : Nat} {Gs : Nat → Env} {Ts : Nat → Ty} (hEr : ∀ w, E w w) (hEt : ∀ a b c, E a b → E b c → E a c) (hn : n ≤ ops.size) (hB : headB ops n a0.tmps.size = true) (h0 : Gs 0 = [])
    (hG : ∀ i o, i < n → ops[i]? = some o → Gs (i + 1) = (match o.dst with | some d => (d, Ts i) :: Gs i | none => Gs i))
    (hst : ∀ i, i < n → stable E (Ts i)) (hstep : ∀ i o, i < n → ops[i]? = some o → stepOK P ops Q E C w0 a0 i o (Gs i) (Ts i))
    (g : Nat)
    (hend : ∀ listed a w, Inv ops E C w0 a0 n Gs Ts listed a w → (∀ i, i < n → listed.getD i false = true) → wpAny P .any ops Q g listed a w)
    (htail : ∀ listed, Closed ops listed → listed.getD z false = true → ∀ i, n ≤ i → i ∈ Region.ready .any ops listed → ∀ j, j < n → listed.getD j false = true) :
    ∀ (f : Nat) (listed : Array Bool) (a : Act) (w : World), listed.getD z false = true → Inv ops E C w0 a0 n Gs Ts listed a w → ((List.range n).filter fun i => !listed.getD i false).length = f → wpAny P .any ops Q (f + g) listed a w := by
  intro f
  induction f with
  | zero =>
    intro listed a w hz hI hf
    rw [Nat.zero_add]
    refine hend listed a w hI (fun i hi => ?_)
    have := List.eq_nil_of_length_eq_zero hf
    have h1 := List.filter_eq_nil_iff.1 this i (List.mem_range.2 hi)
    simpa using h1
  | succ f ih =>
    intro listed a w hz hI hf
    rw [show f + 1 + g = (f + g) + 1 by omega]
    refine ⟨fun hr => ?_, fun i hi => ?_⟩
    · -- some operation of the head is ready
      exfalso
      have hne : (List.range n).filter (fun i => !listed.getD i false) ≠ [] := fun e => by rw [e] at hf; cases hf
      -- the least one that is not listed
      have hex : ∃ i, i < n ∧ listed.getD i false = false := by
        obtain ⟨i, hi⟩ := List.exists_mem_of_ne_nil _ hne
        have := List.mem_filter.1 hi
        exact ⟨i, List.mem_range.1 this.1, by simpa using this.2⟩
      have hleast : ∃ i, i < n ∧ listed.getD i false = false ∧ ∀ j, j < i → listed.getD j false = true := by
        obtain ⟨i, hi⟩ := hex
        induction i using Nat.strongRecOn with
        | _ i ih2 =>
          by_cases hall : ∀ j, j < i → listed.getD j false = true
          · exact ⟨i, hi.1, hi.2, hall⟩
          · have : ∃ j, j < i ∧ listed.getD j false = false := by
              refine Classical.byContradiction fun hno => hall fun j hj => ?_
              cases hl : listed.getD j false with
              | true => rfl
              | false => exact absurd ⟨j, hj, hl⟩ hno
            obtain ⟨j, hj, hl⟩ := this
            exact ih2 j hj ⟨by omega, hl⟩
      obtain ⟨i, hin, hl, hlow⟩ := hleast
      obtain ⟨oi, hoi, _, hback, _, _⟩ := headB_spec hB i hin
      have his : i < ops.size := by omega
      have : i ∈ Region.ready .any ops listed := mem_ready.2 ⟨by
        have h2 : i < listed.size := by rw [hI.size]; exact his
        simp [h2] at hl ⊢; exact hl, oi, hoi, fun e he hb => hlow e.on (hback e he hb)⟩
      rw [hr] at this
      cases this
    · by_cases hin : i < n
      · obtain ⟨hun, oi, hoi, hall⟩ := mem_ready.1 hi
        have hk := inv_knows hn hB h0 hG hI hi hin hoi
        have hstage := stage_of hI.closed hi
        have hs := hstep i oi hin hoi listed a w hI.size hstage hI.cls hI.ext hk
        have hcount : ((List.range n).filter fun j => !(listed.setIfInBounds i true).getD j false).length = f := by
          have his : i < listed.size := by rw [hI.size]; exact (Array.getElem?_eq_some_iff.1 hoi).1
          have key : ∀ (m : Nat), i < m → ((List.range m).filter fun j => !(listed.setIfInBounds i true).getD j false).length + 1 = ((List.range m).filter fun j => !listed.getD j false).length := by
            intro m
            induction m with
            | zero => intro h; omega
            | succ m ihm =>
              intro hm
              rw [List.range_succ, List.filter_append, List.filter_append, List.length_append, List.length_append]
              by_cases him : i = m
              · subst him
                have e1 : (List.range i).filter (fun j => !(listed.setIfInBounds i true).getD j false) = (List.range i).filter fun j => !listed.getD j false := by
                  refine List.filter_congr fun j hj => ?_
                  have := List.mem_range.1 hj
                  rw [getD_set_ne false (by omega)]
                rw [e1]
                have e2 : (listed.setIfInBounds i true).getD i false = true := by simp [his]
                rw [List.filter_cons_of_neg (by rw [e2]; simp), List.filter_cons_of_pos (by rw [getD_both hun]; rfl)]
                rfl
              · have := ihm (by omega)
                have e2 : (listed.setIfInBounds i true).getD m false = listed.getD m false := getD_set_ne false (by omega)
                have e3 : [m].filter (fun j => !(listed.setIfInBounds i true).getD j false) = [m].filter (fun j => !listed.getD j false) := List.filter_congr fun j hj => by
                  rw [List.mem_singleton.1 hj, e2]
                rw [e3]
                omega
          have := key n hin
          omega
        have hzs : (listed.setIfInBounds i true).getD z false = true := by
          by_cases hiz : i = z
          · subst hiz
            have : i < listed.size := by rw [hI.size]; exact (Array.getElem?_eq_some_iff.1 hoi).1
            simp [this]
          · rw [getD_set_ne false hiz]; exact hz
        unfold wpOp
        simp only [hoi]
        split at hs
        · rename_i hw
          simp only [hw, if_true]
          refine hs.imp (fun h => wp_imp (fun a' w' ⟨v, ha', hT, hE, hC⟩ => ih _ _ _ (hzs) (inv_step hEt hB hst hI hi hin hoi ha' hT hE hC) hcount) h) id
        · rename_i hw
          simp only [hw, if_false, Bool.false_eq_true]
          exact ih _ _ _ (hzs) (inv_step hEt hB hst hI hi hin hoi rfl hs.1 (hEr w) hs.2) hcount
      · have hall := htail listed hI.closed hz i (by omega) hi
        have : (List.range n).filter (fun j => !listed.getD j false) = [] := List.filter_eq_nil_iff.2 fun j hj => by simp [hall j (List.mem_range.1 hj)]
        rw [this] at hf
        cases hf

end sound

/-- the check on the tail, the first operation being taken first -/
def tailZ (ops : Array Oper) (n : Nat) : Bool :=
  decide (n < ops.size) && decide (0 < n) && ((List.range ops.size).all fun i => decide (i < n) || (List.range n).all fun j => j == 0 || anc ops ops.size i j) &&
  Region.seqB .any ops (ops.size - n) n ((List.range ops.size).map fun i => decide (i < n)).toArray

section
variable {P : Program} {Q : Exit → Act → World → Prop} {a0 : Act} {w : World} {l : List Oper}
/-- A REGION THAT DRAWS: its first operation, a copy, is taken first; then its first n operations by the table, the others one by one behind them. -/
theorem wp_region_tab_tailZ {id : Nat} (n : Nat) (E : World → World → Prop) (o0 : Oper) (d : Tmp) (x : Operand) (h0 : l.toArray[0]? = some o0) (hd : o0.dst = some d) (hop : o0.op = .move x) (hgu : o0.guard = none) (haf : o0.after = #[])
    (hfree : Region.free .any l.toArray (Array.replicate l.toArray.size false) 0 = true) (hrdy : (Region.ready .any l.toArray (Array.replicate l.toArray.size false)).contains 0 = true) (hns : Region.noSelect l.toArray = true)
    (hQ : ∀ c a w, Q (.panic c) (a.put (some d) (a0.eval x)) w → Q (.panic c) a w)
    (hm : P.follows .mixedOrders = true) (hB : headB l.toArray n a0.tmps.size = true) (hT : tailZ l.toArray n = true) (hEr : ∀ w, E w w) (hEt : ∀ a b c, E a b → E b c → E a c)
    (h : wpTab P l.toArray Q E (fun _ _ => True) w.drew a0 (fun G => ∀ a w', E w.drew w' → sat a0 G a w' → wpList P l.toArray Q (l.drop n) a w') 0 (l.take n) []) : (Code.region id l.toArray true).wp P Q a0 w := by
  refine wp_region_any hm ?_
  simp only [tailZ, Bool.and_eq_true, decide_eq_true_eq, List.size_toArray] at hT
  obtain ⟨⟨⟨hn, hn0⟩, hsink⟩, hseq⟩ := hT
  obtain ⟨Gs, Ts, ⟨hg0, ht⟩, hK⟩ := table_of (l.take n) 0 [] h
  simp only [Nat.zero_add] at ht hK
  have hlt : (l.take n).length = n := by simp; omega
  rw [hlt] at hK
  have hget : ∀ i, i < n → (l.take n)[i]? = l[i]? := fun i hi => by simp [hi]
  have hG : ∀ i o, i < n → l.toArray[i]? = some o → Gs (i + 1) = (match o.dst with | some d => (d, Ts i) :: Gs i | none => Gs i) := fun i o hi ho => (ht i o (by rw [hget i hi]; simpa using ho)).2.2
  have hs0 := (ht 0 o0 (by rw [hget 0 hn0]; simpa using h0)).2.1
  have hsz : 0 < l.toArray.size := by simp; omega
  have hrun : ∀ w, (execOp a0.eval o0).run P w = .ok (.value (a0.eval x)) w := fun w => by
    unfold execOp
    rw [hop]
    rfl
  have hwant : ∀ a : Act, Region.wanted o0 (yielded l.toArray a.tmps) = true := fun a => by unfold Region.wanted; rw [hgu]
  have hdlt : d < a0.tmps.size := by
    obtain ⟨oi, hoi, _, _, hd', _⟩ := headB_spec hB 0 hn0
    have : oi = o0 := Option.some.inj (hoi.symm.trans h0)
    subst this
    exact hd' d hd
  have hfact : (Ts 0).holds (a0.eval x) w.drew := by
    have h1 := hs0 (Array.replicate l.toArray.size false) a0 w.drew (by simp) ⟨getD_replicate_false _ _, fun j => ⟨fun hj => ?_, fun _ => getD_replicate_false _ _⟩⟩ trivial (hEr _) (fun t _ => by rw [hg0]; rfl)
    · rw [if_pos (hwant a0)] at h1
      rcases h1 with h1 | ⟨h1, _⟩
      · unfold Oper.wp at h1
        rw [hrun] at h1
        obtain ⟨v, hv, hTv, _⟩ := h1
        have e := congrArg (fun a : Act => a.tmps.getD d undef) hv
        simp only [hd] at e
        rw [put_getD_same hdlt, put_getD_same hdlt] at e
        rw [e]
        exact hTv
      · obtain ⟨hev, _⟩ := h1
        unfold execOp at hev
        rw [hop] at hev
        change noRoomEvent ∈ #[] at hev
        simp at hev
    · exfalso
      have : ∀ f, anc l.toArray f 0 j = false := fun f => by
        cases f with
        | zero => rfl
        | succ f => simp [anc, h0, haf]
      rw [this] at hj
      cases hj
  obtain ⟨m, hms⟩ : ∃ m, l.toArray.size = m + 1 := ⟨l.toArray.size - 1, by omega⟩
  rw [show wpAny P .any l.toArray Q l.toArray.size = wpAny P .any l.toArray Q (m + 1) by rw [← hms]]
  refine wpAny_take (i := 0) (oi := o0) (v := a0.eval x) h0 hns hfree hrdy (by rw [hd]; exact hQ) (.inl ⟨hwant a0, hrun⟩) ?_
  have hL : ∀ j, ((Array.replicate l.toArray.size false).setIfInBounds 0 true).getD j false = true ↔ j = 0 := fun j => by
    by_cases hj : (0 : Nat) = j
    · subst hj
      simp
      simpa using hsz
    · rw [getD_set_ne false hj, getD_replicate_false]
      simp
      omega
  have hI : Inv l.toArray E (fun _ _ => True) w.drew a0 n Gs Ts ((Array.replicate l.toArray.size false).setIfInBounds 0 true) (a0.put o0.dst (a0.eval x)) w.drew := by
    refine ⟨by simp, fun j oj hj hl e he => ?_, hEr _, trivial, by rw [hd]; rfl, by rw [hd]; simp [Act.put], fun i o d' hi ho hd' hl => ?_, fun t hno => ?_, fun i hi => ?_⟩
    · have := (hL j).1 hl
      subst this
      have : oj = o0 := Option.some.inj (hj.symm.trans h0)
      subst this
      rw [haf] at he
      simp at he
    · have := (hL i).1 hl
      subst this
      have : o = o0 := Option.some.inj (ho.symm.trans h0)
      subst this
      have e : d' = d := Option.some.inj (hd'.symm.trans hd)
      subst e
      rw [hd, put_getD_same hdlt]
      exact hfact
    · rw [hd]
      refine put_getD_ne (fun e => ?_)
      subst e
      have := hno 0 o0 hn0 h0 hd
      rw [(hL 0).2 rfl] at this
      cases this
    · cases hx : ((Array.replicate l.toArray.size false).setIfInBounds 0 true).getD i false with
      | false => rfl
      | true => have := (hL i).1 hx; omega
  have hr := any_of_tableZ (Q := Q) 0 (n := n) (Gs := Gs) (Ts := Ts) hEr hEt (by simp; omega) hB hg0 hG (fun i hi => (ht i l[i] (by rw [hget i hi]; simp)).1)
    (fun i o hi ho => (ht i o (by rw [hget i hi]; simpa using ho)).2.1) (l.toArray.size - n) (fun listed a w' hI hall => by
      have hl : listed = ((List.range l.length).map fun i => decide (i < n)).toArray := by
        refine Array.ext (by simp [hI.size]) (fun i h1 h2 => ?_)
        simp only [List.getElem_toArray, List.getElem_map, List.getElem_range]
        have e : listed.getD i false = listed[i] := by simp [h1]
        rw [← e]
        by_cases hi : i < n
        · rw [hall i hi]; simp [hi]
        · rw [hI.head i (by omega)]; simp [hi]
      have hs := wpAny_of_seq (md := .any) (Q' := Q) (P := P) (ops := l.toArray) (l.drop n) n listed a w' (fun j => by simp [List.getElem?_drop]) (by
        rw [hl, List.length_drop]
        simpa using hseq) (hK a w' hI.ext (sat_of_inv (by simp; omega) hg0 hG hI hall))
      rw [List.length_drop] at hs
      simpa using hs)
    (fun listed hc hz i hi hr j hj => by
      obtain ⟨_, oi, hoi, hall⟩ := mem_ready.1 hr
      have hsz := (Array.getElem?_eq_some_iff.1 hoi).1
      simp only [List.size_toArray] at hsz
      have h1 := List.all_eq_true.1 hsink i (List.mem_range.2 hsz)
      simp only [Bool.or_eq_true, decide_eq_true_eq] at h1
      rcases h1 with h1 | h1
      · omega
      · have h2 := List.all_eq_true.1 h1 j (List.mem_range.2 hj)
        simp only [Bool.or_eq_true, beq_iff_eq] at h2
        rcases h2 with h2 | h2
        · rw [h2]; exact hz
        · exact anc_listed hc _ i j h2 (fun ok hok e he hb => by
            have : ok = oi := Option.some.inj (hok.symm.trans hoi)
            subst this
            exact hall e he hb))
    _ ((Array.replicate l.toArray.size false).setIfInBounds 0 true) _ _ ((hL 0).2 rfl) hI rfl
  have e : ((List.range n).filter fun i => !((Array.replicate l.toArray.size false).setIfInBounds 0 true).getD i false).length + (l.toArray.size - n) = m := by
    have key : ∀ k, 0 < k → ((List.range k).filter fun i => !((Array.replicate l.toArray.size false).setIfInBounds 0 true).getD i false).length + 1 = k := by
      intro k
      induction k with
      | zero => intro h; omega
      | succ k ih =>
        intro _
        rw [List.range_succ, List.filter_append, List.length_append]
        by_cases hk : k = 0
        · subst hk
          have := (hL 0).2 rfl
          simp only [List.range_zero, List.filter_nil, List.length_nil, List.filter_cons, this]
          simp
        · have e1 : ((Array.replicate l.toArray.size false).setIfInBounds 0 true).getD k false = false := by
            cases hx : ((Array.replicate l.toArray.size false).setIfInBounds 0 true).getD k false with
            | false => rfl
            | true => exact absurd ((hL k).1 hx) hk
          have := ih (by omega)
          simp only [List.filter_cons, e1, Bool.not_false, if_true, List.filter_nil, List.length_cons, List.length_nil]
          omega
    have := key n hn0
    simp only [List.size_toArray] at hms this ⊢
    omega
  rw [e] at hr
  exact hr
end
end Go.Proofs.YthejmnmkbldacaaGreatDoor.Tab
