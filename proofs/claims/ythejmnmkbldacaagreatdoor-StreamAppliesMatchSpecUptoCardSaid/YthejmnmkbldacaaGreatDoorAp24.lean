/-
  What is proved: copyDeltas returns equal differences in new memory. Conditions: no list has 2^30 elements or more.
  What is proved: the law's comparing of rows and of differences answers true for lists that say the same. Conditions: none.
  What is proved: slices.Concat of two lists of differences. Conditions: fewer than 2^30 differences.
  What is proved: Sum returns the canonical list of two lists of differences, or its error. Conditions: the tables of unicode/utf8 lie as they are laid; fewer than 2^21 differences, no list with 2^30 elements or more.
  What is proved: Sum returns the canonical list of two lists of differences, or its error. Conditions: the tables of unicode/utf8 lie as they are laid; fewer than 2^22 differences, no list with 2^30 elements or more.
-/
import Derived.Test.YthejmnmkbldacaaGreatDoorAp17
import Derived.Test.YthejmnmkbldacaaGreatDoorAp23
import Derived.Test.YthejmnmkbldacaaGreatDoorAp12
import Derived.Lib.AppendZerosOnto
import Derived.Test.YthejmnmkbldacaaGreatDoorAp15
import Derived.Test.YthejmnmkbldacaaGreatDoorAp21
set_option linter.all false
namespace Go.Proofs.YthejmnmkbldacaaGreatDoor
open Go.RowKit
attribute [local go_sem] Tab.Env.ev Tab.Env.get

theorem cfCopyRow : ∀ (args : Array Value) (w : World), (callFunc 73 args).run Tryz.prog w = .ok (.enter 73 args) w := fun _ _ => by simp [go_sem]
/-- the differences of two lists have equal rows and numbers -/
def SameD (l l' : List DE) : Prop := l'.map (fun d => (d.row, d.n)) = l.map (fun d => (d.row, d.n))

set_option maxHeartbeats 2000000 in
theorem copyDeltas_any (F F' : Nat → Prop) (v : Value) (l : List DE) (w : World) (hr : RD w F F' v l) (hn : l.length < 1073741824) (hsm : ∀ d, d ∈ l → d.row.length < 1073741824 ∧ ∀ x, x ∈ d.row → smV x) :
    Calls Tryz.prog 61 #[v] w fun e w' => ∃ v' l', e = .returned v' ∧ RD w' (fun b => w.heap.size ≤ b) (fun b => w.heap.size ≤ b) v' l' ∧ SameD l l' ∧ Below w.heap.size w w' := by
  obtain ⟨hl, A, c, rfl, hc, hm, -⟩ := hr.sl
  unfold maxLen at hm
  have HR := Lib.hid hr
  have HSM := Lib.hid hsm
  clear hr hl hsm
  obtain ⟨n, hln⟩ : ∃ n, l.length = n := ⟨_, rfl⟩
  rw [hln] at hn hc ⊢
  have HN := Lib.hid hln
  clear hln
  go_enter Tryz.func61, Tryz.ntmps61
  go_wp2_with fail
  go_loopw [3, 5, 8] (fun s _ i wr => ∃ (k : Nat) (v : Value) (es : List DE), k ≤ n ∧ v = s ∧ i = .int .i64 k ∧ OwnDs wr w.heap.size (fun b => w.heap.size ≤ b) v es ∧ Hid (SameD (l.take k) es) ∧ Below w.heap.size w wr) (fun _ _ i _ => n - (intOf i).toNat)
  case atStart => exact ⟨0, _, [], Nat.zero_le _, rfl, rfl, OwnDs.nil _ _ _, Lib.hid (by simp [SameD]), Below.refl _ _⟩
  case round =>
    obtain ⟨k, v, es, hk, rfl, rfl, ho, HE, hbel⟩ := hrel
    have HO := Lib.hid ho
    by_cases hlt : k < n
    · have hlen : es.length = k := by
        have := congrArg List.length HE.out
        rw [List.length_map, List.length_map, List.length_take, HN.out] at this
        omega
      have hrr := HR.out.later hbel
      obtain ⟨b, off, c', A1, m1, c1, row, kk, hv, -, -, hb, he, hgd, q1, q2⟩ := hrr.at_ (i := k) (by rw [HN.out]; exact hlt)
      injection hv with e1 _ e2
      subst e1
      subst e2
      have hsmd := HSM.out _ (dat_mem (l := l) (i := k) (by rw [HN.out]; exact hlt))
      rw [he] at hsmd
      have HSMD := Lib.hid hsmd
      have HT := Lib.hid (show l.take (k + 1) = l.take k ++ [⟨.slice A1 m1 c1, row, kk⟩] by
        rw [List.take_succ_eq_append_getElem (by rw [HN.out]; exact hlt), ← dat_eq, he])
      have HLEN := Lib.hid hlen
      have HGD := Lib.hid hgd
      have hs2 : w.heap.size ≤ wr.heap.size := hbel.size
      clear hrr he hgd ho hlen hsmd
      go_wp2_with fail
      have hWb : Below wr.heap.size wr (wr.alloc (.cells #[.slice A1 m1 c1, .int .i64 kk] 86)) := below_new wr _
      have hWn : Blk (wr.alloc (.cells #[.slice A1 m1 c1, .int .i64 kk] 86)) wr.heap.size 86 [.slice A1 m1 c1, .int .i64 kk] := Blk.new wr 86 [.slice A1 m1 c1, .int .i64 kk]
      generalize hWdef : wr.alloc (.cells #[.slice A1 m1 c1, .int .i64 kk] 86) = W at *
      have p0 := fun w' (h : Tab.Ext (fun _ => False) W.drew w') => wcell2 (hWn.drew.ext h id)
      have HXW := Lib.hid (show ∀ w', Tab.Ext (fun _ => False) W.drew w' → Below wr.heap.size wr w' from fun w' h => hWb.trans (((Below.refl _ W).drew.trans (h.below.mono (Nat.le_refl _))).mono hWb.size))
      have hWs : wr.heap.size ≤ W.heap.size := hWb.size
      refine Tab.wp_region_tab_tail 8 (Tab.Ext fun _ => False) (by kernel_rfl) (by kernel_rfl) (by kernel_rfl) (fun _ => Tab.Ext.refl _ _) (fun _ _ _ h k => h.trans k) ?_
      iterate 3 (first | (refine Tab.tab_moveE _ rfl (Tab.silent_true _) (.inl rfl) rfl rfl (fun _ => Tab.Ext.refl _ _) ?_; apply Exists.intro; refine And.intro ?_ ?_; focus (simp [Tab.Env.ev, Tab.Env.get]; rfl)) | (refine Tab.tab_moveE _ rfl (Tab.silent_true _) (.inr rfl) rfl rfl (fun _ => Tab.Ext.refl _ _) ?_; apply Exists.intro; refine And.intro ?_ ?_; focus (simp [Tab.Env.ev, Tab.Env.get]; rfl)) | refine Tab.tab_skip rfl (Tab.silent_true _) rfl ?_ | (refine Tab.tab_repE rfl (Tab.silent_true _) rfl (fun _ _ h => by cases h) rfl (fun _ => Tab.Ext.refl _ _) ?_; apply Exists.intro; refine And.intro (fun l w' _ _ hw => ?_) ?_; focus (go_simp; rfl)) | (refine Tab.tab_repE rfl (Tab.silent_true _) rfl (fun _ _ h => by cases h) rfl (fun _ => Tab.Ext.refl _ _) ?_; apply Exists.intro; refine And.intro (fun l w' hs hc hw => ?_) ?_; focus (go_simp; rfl)))
      refine Tab.tab_callk (.ty fun v w' => RI w' (fun b => wr.heap.size ≤ b) v row) rfl (fun v w1 w2 hE hv => hv.ext hE (fun _ _ => id)) rfl rfl cfCopyRow rfl (fun l_ w' _ _ _ hw => ?_) ?_
      · show Calls _ _ #[.slice A1 m1 c1] w' _
        refine (copyRow_any _ (.slice A1 m1 c1) row w' (HGD.out.row.later (HXW.out w' hw)) HSMD.out.1 HSMD.out.2).mono ?_
        rintro e_ w_ ⟨v', rfl, hri, hb_⟩
        exact ⟨v', rfl, hri.mono (fun b hb _ => Nat.le_trans (HXW.out w' hw).size hb), Tab.Ext.of_below hb_, trivial⟩
      iterate 2 (first | (refine Tab.tab_moveE _ rfl (Tab.silent_true _) (.inl rfl) rfl rfl (fun _ => Tab.Ext.refl _ _) ?_; apply Exists.intro; refine And.intro ?_ ?_; focus (simp [Tab.Env.ev, Tab.Env.get]; rfl)) | (refine Tab.tab_moveE _ rfl (Tab.silent_true _) (.inr rfl) rfl rfl (fun _ => Tab.Ext.refl _ _) ?_; apply Exists.intro; refine And.intro ?_ ?_; focus (simp [Tab.Env.ev, Tab.Env.get]; rfl)) | refine Tab.tab_skip rfl (Tab.silent_true _) rfl ?_ | (refine Tab.tab_repE rfl (Tab.silent_true _) rfl (fun _ _ h => by cases h) rfl (fun _ => Tab.Ext.refl _ _) ?_; apply Exists.intro; refine And.intro (fun l w' _ _ hw => ?_) ?_; focus (go_simp; rfl)) | (refine Tab.tab_repE rfl (Tab.silent_true _) rfl (fun _ _ h => by cases h) rfl (fun _ => Tab.Ext.refl _ _) ?_; apply Exists.intro; refine And.intro (fun l w' hs hc hw => ?_) ?_; focus (go_simp; rfl)))
      refine Tab.tab_ty (.ty fun v w' => ∃ rv, v = .agg #[rv, .int .i64 kk] ∧ RI w' (fun b => wr.heap.size ≤ b) rv row) rfl (fun v w1 w2 hE ⟨rv, e, hv⟩ => ⟨rv, e, hv.ext hE (fun _ _ => id)⟩) rfl (fun listed a w' _ _ _ hw hx => ?_) ?_
      · have e15 := hx (.tmp 15) (by show Operand.tmp 15 ∈ #[Operand.tmp 15, Operand.tmp 17]; simp)
        have e17 := hx (.tmp 17) (by show Operand.tmp 17 ∈ #[Operand.tmp 15, Operand.tmp 17]; simp)
        simp only [Tab.Env.tyd, Tab.Env.knows, Tab.Env.get, Nat.reduceEqDiff, if_true, if_false, Tab.Ty.holds] at e15 e17
        have hr : ∀ p af gd, (execOp a.eval { dst := some 18, op := .build 86 #[(0, .tmp 15), (1, .tmp 17)], type := 86, pos := p, after := af, guard := gd }).run Tryz.prog w' = .ok (.value (.agg #[a.eval (.tmp 15), .int .i64 kk])) w' := by
          intro p af gd
          obtain ⟨A9, c9, _, _, e9, _⟩ := e15.shape
          rw [e9] at e15 ⊢
          clear hx
          generalize a.eval = ρ at *
          go_simp
        unfold Oper.wp
        rw [hr]
        exact ⟨_, rfl, ⟨_, rfl, e15⟩, Tab.Ext.refl _ _, trivial⟩
      refine Tab.tab_ty (.ty fun v w' => ∃ rv g, v = .slice (some ⟨g, 0, none⟩) 1 1 ∧ w.heap.size ≤ g ∧ Blk w' g 86 [rv, .int .i64 kk] ∧ RI w' (fun b => wr.heap.size ≤ b) rv row) rfl (fun v w1 w2 hE ⟨rv, g, e, hg, hb, hv⟩ => ⟨rv, g, e, hg, hb.ext hE id, hv.ext hE (fun _ _ => id)⟩) rfl (fun listed a w' _ _ _ hw hx => ?_) ?_
      · have e18 : ∃ rv, a.eval (.tmp 18) = .agg #[rv, .int .i64 kk] ∧ RI w' (fun b => wr.heap.size ≤ b) rv row := hx (.tmp 18) (by show Operand.tmp 18 ∈ #[Operand.tmp 18]; simp)
        have e19 : ∃ (p : Option Addr × Nat), a.eval (.tmp 18) = .agg #[.slice p.1 row.length p.2, .int .i64 kk] ∧ RI w' (fun b => wr.heap.size ≤ b) (.slice p.1 row.length p.2) row := by
          obtain ⟨rv, h1, hri⟩ := e18
          obtain ⟨A9, c9, _, _, e9, _⟩ := hri.shape
          subst e9
          exact ⟨(A9, c9), h1, hri⟩
        have h20 := e19.choose_spec
        generalize e19.choose = p9 at h20
        have hr : ∀ p af gd, (execOp a.eval { dst := some 19, op := .buildSlice 23 1 #[(0, .tmp 18)], type := 23, pos := p, after := af, guard := gd }).run Tryz.prog w' = .ok (.value (.slice (some ⟨w'.heap.size, 0, none⟩) 1 1)) (w'.alloc (.cells #[.slice p9.1 row.length p9.2, .int .i64 kk] 86)) := by
          intro p af gd
          have h21 := h20.1
          clear hx h20 e18 e19
          generalize a.eval = ρ at *
          go_simp
        unfold Oper.wp
        rw [hr]
        exact ⟨_, rfl, ⟨_, _, rfl, Nat.le_trans hs2 (HXW.out w' hw).size, Blk.new _ _ _, h20.2.later (below_new _ _)⟩, Tab.Ext.of_below (below_new _ _), trivial⟩
      intro a_ w_ hw_ hsat_
      refine Tab.fin_of_sat rfl ?_ hsat_
      simp only [Tab.fin, Act.put, List.setIfInBounds_toArray, List.set_cons_succ, List.set_cons_zero, List.drop_succ_cons, List.drop_zero]
      intro v15 _ v18 _ v19 ⟨rv, g, e19, hg, hblk, hri⟩
      obtain ⟨A9, c9, _, _, e9, _⟩ := hri.shape
      subst e9
      subst e19
      have hw_b := HXW.out w_ hw_
      have hbelw := hbel.trans (hw_b.mono hs2)
      have HOL := Lib.hid (HO.out.later hw_b)
      have hsw : wr.heap.size ≤ w_.heap.size := hw_b.size
      have HBLK := Lib.hid hblk
      have HRI := Lib.hid hri
      clear hsat_ hw_ hblk hri HXW p0 hWn hWb hWdef
      refine append_own3 w_ rfl (.tmp 12) (.tmp 19) 23 rfl w.heap.size 86 underD infoD rfl (by decide) _ _ _ (DE.cells ⟨.slice A9 row.length c9, row, kk⟩) rfl HOL.out.own g 0 1 1 rfl rfl (fun j u hj => ?_) (by simp [DE.cells, Value.oneCell']) (by rw [HLEN.out]; omega) (by decide) (by omega) ?_
      · rw [Nat.zero_add, HBLK.out.cell]
        exact hj
      intro v' w4 hown' hb4 hkept
      have hnb : ∀ b, wr.heap.size ≤ b → v.ownBlock ≠ some b := fun b hb he => by
        have := (HO.out.own.lt b he).2
        omega
      have O2 := Lib.hid (HOL.out.add (e := DE.mk (.slice A9 row.length c9) row kk) hown' hkept ⟨HRI.out.mono fun b hb _ => ⟨by show w.heap.size ≤ b; omega, hnb b hb⟩, HGD.out.n⟩)
      have hbel4 := hbelw.trans hb4
      have HE2 := Lib.hid (show SameD (l.take (k + 1)) (es ++ [DE.mk (.slice A9 row.length c9) row kk]) by
        have := HE.out
        unfold SameD at this ⊢
        rw [HT.out, List.map_append, List.map_append, this]
        rfl)
      clear hown' hb4 hkept hbelw hnb q1 q2
      go_wp2_with fail
      go_roundw
      case rel => exact ⟨k + 1, _, _, hlt, rfl, by go_num, O2.out, HE2, hbel4⟩
      case measure => simp [intOf] <;> omega
    · obtain rfl : k = n := by omega
      obtain ⟨hl, A1, c1, rfl, g1, g2, g3⟩ := SL.of_own ho.own
      have HLEN := Lib.hid (show es.length = k by have := congrArg List.length HE.out; rw [List.length_map, List.length_map, List.length_take, HN.out] at this; omega)
      rw [HLEN.out] at g1 g3 ⊢
      have HCL := Lib.hid (fun W => clipD_any A1 k c1 (fun h0 => by
        rcases Nat.eq_zero_or_pos k with h | h
        · exact h
        · obtain ⟨b, off, e, _⟩ := g3 h
          rw [h0] at e; cases e) g1 g2 W)
      clear g3 hl ho hk hlt
      have hdec : ¬ ((k : Int) < (k : Int)) := by omega
      go_wp2_with fail
      refine (HCL.out _).mono ?_
      rintro e w1 ⟨rfl, rfl⟩
      go_wp2_with fail
      go_ret
      have hrd := HO.out.rd
      have hsl := hrd.sl
      rw [HLEN.out] at hsl
      refine ⟨_, es, rfl, ⟨by rw [HLEN.out]; exact hsl.clip, hrd.good⟩, ?_, hbel⟩
      have := HE.out
      rw [← HN.out, List.take_length] at this
      exact this
end Go.Proofs.YthejmnmkbldacaaGreatDoor

namespace Go.Proofs.YthejmnmkbldacaaGreatDoor
open Go.RowKit
attribute [local go_sem] Tab.Env.ev Tab.Env.get

theorem cmpL_len : ∀ (l r : List VD), cmpL l r = 0 → l.length = r.length
  | [], [], _ => rfl
  | [], _ :: _, h => by simp [cmpL] at h
  | _ :: _, [], h => by simp [cmpL] at h
  | a :: l, b :: r, h => by
    rw [cmpL_cons] at h
    unfold orI at h
    by_cases hz : cmpV a b = 0
    · rw [if_neg (by simp [hz])] at h
      rw [List.length_cons, List.length_cons, cmpL_len l r h]
    · rw [if_pos hz] at h
      exact absurd h hz

/-- two lists of rows that compare as equal -/
def SameRows (a b : List (List VD)) : Prop := a.length = b.length ∧ ∀ (i : Nat) (h1 : i < a.length) (h2 : i < b.length), cmpL a[i] b[i] = 0
theorem SameRows.refl (a : List (List VD)) : SameRows a a := ⟨rfl, fun _ _ _ => cmpL_self _⟩

set_option maxHeartbeats 2000000 in
set_option maxRecDepth 100000 in
theorem rowsLaw_any (F1 F1' F2 F2' : Nat → Prop) (va vb : Value) (a b : List RE) (w : World) (ha : RR w F1 F1' va a) (hb : RR w F2 F2' vb b) (hs : SameRows (a.map RE.row) (b.map RE.row)) :
    Calls Tryz.prog 13 #[va, vb] w fun e w' => e = .returned (.bool true) ∧ Below w.heap.size w w' := by
  obtain ⟨_, A, c, rfl, hc, hm, -⟩ := ha.sl
  obtain ⟨_, B, d, rfl, hc', hm', -⟩ := hb.sl
  unfold maxLen at hm hm'
  have HA := Lib.hid ha
  have HB := Lib.hid hb
  have HS := Lib.hid hs
  have hlen : b.length = a.length := by have := hs.1; rw [List.length_map, List.length_map] at this; exact this.symm
  obtain ⟨n, hln⟩ : ∃ n, a.length = n := ⟨_, rfl⟩
  rw [hlen, hln] at hc'
  rw [hln] at hc
  rw [hlen, hln]
  have HN := Lib.hid hln
  have HN2 := Lib.hid (hlen.trans hln)
  clear hs ha hb hlen hln
  go_enter Tryz.func13, Tryz.ntmps13
  go_wp2_with fail
  go_loopw [4, 5, 13] (fun _ _ i wr => ∃ k : Nat, k ≤ n ∧ i = .int .i64 k ∧ Below w.heap.size w wr) (fun _ _ i _ => n - (intOf i).toNat)
  case atStart => exact ⟨0, Nat.zero_le _, rfl, Below.refl _ _⟩
  case round =>
    obtain ⟨k, hk, rfl, hbel⟩ := hrel
    have HBL := Lib.hid hbel
    by_cases hlt : k < n
    · have hka : k < a.length := by rw [HN.out]; exact hlt
      have hkb : k < b.length := by rw [HN2.out]; exact hlt
      obtain ⟨b1, o1, ca, A1, m1, c1, row1, hv1, -, -, hb1, -, he1, hr1, x1⟩ := (HA.out.later hbel).at_ (i := k) hka
      obtain ⟨b2, o2, cb, A2, m2, c2, row2, hv2, -, -, hb2, -, he2, hr2, x2⟩ := (HB.out.later hbel).at_ (i := k) hkb
      injection hv1 with e1 e0 e2
      subst e1
      subst e2
      injection hv2 with e1 e3 e2
      subst e1
      subst e2
      have hz : cmpL row1 row2 = 0 := by
        have := HS.out.2 k (by rw [List.length_map]; exact hka) (by rw [List.length_map]; exact hkb)
        rw [List.getElem_map, List.getElem_map, ← dat_eq hka, ← dat_eq hkb, he1, he2] at this
        exact this
      have hml : m1 = m2 := by
        obtain ⟨_, _, _, _, e, _⟩ := hr1.shape
        obtain ⟨_, _, _, _, e', _⟩ := hr2.shape
        injection e with _ e _
        injection e' with _ e' _
        rw [e, e']
        exact cmpL_len _ _ hz
      subst hml
      have hz2 : (cmpL row1 row2 != 0) = false := by simp [hz]
      have HCALL := Lib.hid (fun W (hW : Below wr.heap.size wr W) => compareRowsR_any F1' F2' _ _ row1 row2 W (hr1.later hW) (hr2.later hW))
      rw [hz] at HCALL
      clear e0 e3 he1 he2 hr1 hr2 hbel hz hz2
      go_wp2_with fail
      have q1 := fun w' (h : Tab.Ext (fun _ => False) wr.drew w') => (h.cell (p := ⟨b1, o1 + k, none⟩) hb1 id).trans x1
      have q2 := fun w' (h : Tab.Ext (fun _ => False) wr.drew w') => (h.cell (p := ⟨b2, o2 + k, none⟩) hb2 id).trans x2
      have hbw := Lib.hid (fun w' (h : Tab.Ext (fun _ => False) wr.drew w') => (show Below wr.heap.size wr w' from (Below.refl _ _).drew.trans h.below))
      clear x1 x2
      refine Tab.wp_region_tab (Tab.Ext fun _ => False) (by kernel_rfl) (by kernel_rfl) (fun _ => Tab.Ext.refl _ _) (fun _ _ _ h k => h.trans k) ?_
      iterate 20 (first | (refine Tab.tab_moveE _ rfl (Tab.silent_true _) (.inl rfl) rfl rfl (fun _ => Tab.Ext.refl _ _) ?_; apply Exists.intro; refine And.intro ?_ ?_; focus (simp [Tab.Env.ev, Tab.Env.get]; rfl)) | (refine Tab.tab_moveE _ rfl (Tab.silent_true _) (.inr rfl) rfl rfl (fun _ => Tab.Ext.refl _ _) ?_; apply Exists.intro; refine And.intro ?_ ?_; focus (simp [Tab.Env.ev, Tab.Env.get]; rfl)) | refine Tab.tab_skip rfl (Tab.silent_true _) rfl ?_ | (refine Tab.tab_repE rfl (Tab.silent_true _) rfl (fun _ _ h => by cases h) rfl (fun _ => Tab.Ext.refl _ _) ?_; apply Exists.intro; refine And.intro (fun l w' _ _ hw => ?_) ?_; focus (go_simp; rfl)) | (refine Tab.tab_repE rfl (Tab.silent_true _) rfl (fun _ _ h => by cases h) rfl (fun _ => Tab.Ext.refl _ _) ?_; apply Exists.intro; refine And.intro (fun l w' hs hc hw => ?_) ?_; focus (go_simp; rfl)))
      refine Tab.tab_call_is (.int .i64 0) rfl rfl rfl cfCompareRowsR rfl (fun l_ w' _ _ _ hw => ?_) ?_
      · show Calls _ _ #[.slice A1 m1 c1, .slice A2 m1 c2] w' _
        refine (HCALL.out w' (hbw.out _ hw)).mono ?_
        rintro e_ w_ ⟨rfl, hb_⟩
        exact ⟨rfl, Tab.Ext.of_below hb_, trivial⟩
      iterate 2 (first | (refine Tab.tab_moveE _ rfl (Tab.silent_true _) (.inl rfl) rfl rfl (fun _ => Tab.Ext.refl _ _) ?_; apply Exists.intro; refine And.intro ?_ ?_; focus (simp [Tab.Env.ev, Tab.Env.get]; rfl)) | (refine Tab.tab_moveE _ rfl (Tab.silent_true _) (.inr rfl) rfl rfl (fun _ => Tab.Ext.refl _ _) ?_; apply Exists.intro; refine And.intro ?_ ?_; focus (simp [Tab.Env.ev, Tab.Env.get]; rfl)) | refine Tab.tab_skip rfl (Tab.silent_true _) rfl ?_ | (refine Tab.tab_repE rfl (Tab.silent_true _) rfl (fun _ _ h => by cases h) rfl (fun _ => Tab.Ext.refl _ _) ?_; apply Exists.intro; refine And.intro (fun l w' _ _ hw => ?_) ?_; focus (go_simp; rfl)) | (refine Tab.tab_repE rfl (Tab.silent_true _) rfl (fun _ _ h => by cases h) rfl (fun _ => Tab.Ext.refl _ _) ?_; apply Exists.intro; refine And.intro (fun l w' hs hc hw => ?_) ?_; focus (go_simp; rfl)))
      intro a_ w_ hw_ hsat_
      refine Tab.fin_of_sat rfl ?_ hsat_
      simp only [Tab.fin, Act.put, List.setIfInBounds_toArray, List.set_cons_succ, List.set_cons_zero]
      have HB2 := Lib.hid (HBL.out.trans ((hbw.out _ hw_).mono HBL.out.size))
      clear hsat_ hw_ q1 q2 hbw HCALL
      go_wp2_with fail
      go_roundw
      case rel => exact ⟨k + 1, hlt, by go_num, HB2.out⟩
      case measure => simp [intOf] <;> omega
    · obtain rfl : k = n := by omega
      go_wp2_with fail
      go_ret
      exact ⟨rfl, HBL.out⟩

theorem SameD.same {l l' : List DE} (h : SameD l l') : ∀ (i : Nat) (h1 : i < l.length) (h2 : i < l'.length), l'[i].row = l[i].row ∧ l'[i].n = l[i].n := fun i h1 h2 => by
  have e1 : (l'.map fun d => (d.row, d.n))[i]'(by rw [List.length_map]; exact h2) = (l.map fun d => (d.row, d.n))[i]'(by rw [List.length_map]; exact h1) := by
    congr 1
  rw [List.getElem_map, List.getElem_map] at e1
  exact ⟨congrArg Prod.fst e1, congrArg Prod.snd e1⟩
/-- two lists of differences that say the same, one by one -/
def SameDs (a b : List DE) : Prop := a.length = b.length ∧ ∀ (i : Nat) (h1 : i < a.length) (h2 : i < b.length), cmpL a[i].row b[i].row = 0 ∧ a[i].n = b[i].n
theorem SameDs.of_same {a b : List DE} (h : Same cmpD DE.n a b) : SameDs a b := ⟨h.len, fun i h1 h2 => h.get i h1 h2⟩
theorem SameD.len {l l' : List DE} (h : SameD l l') : l'.length = l.length := by
  have := congrArg List.length h
  rwa [List.length_map, List.length_map] at this
theorem SameDs.copy {a b c : List DE} (h : SameD a c) (h2 : SameDs a b) : SameDs c b := ⟨h.len.trans h2.1, fun i h1 h3 => by
  have hi : i < a.length := by rw [← h.len]; exact h1
  obtain ⟨e1, e2⟩ := h.same i hi h1
  rw [e1, e2]
  exact h2.2 i hi h3⟩

set_option maxHeartbeats 4000000 in
set_option maxRecDepth 100000 in
theorem deltasLaw_any (F1 F1' F2 F2' : Nat → Prop) (va vb : Value) (a b : List DE) (w : World) (ha : RD w F1 F1' va a) (hb : RD w F2 F2' vb b) (hs : SameDs a b) :
    Calls Tryz.prog 14 #[va, vb] w fun e w' => e = .returned (.bool true) ∧ Below w.heap.size w w' := by
  obtain ⟨_, A, c, rfl, hc, hm, -⟩ := ha.sl
  obtain ⟨_, B, d, rfl, hc', hm', -⟩ := hb.sl
  unfold maxLen at hm hm'
  have HA := Lib.hid ha
  have HB := Lib.hid hb
  have HS := Lib.hid hs
  have hlen : b.length = a.length := hs.1.symm
  obtain ⟨n, hln⟩ : ∃ n, a.length = n := ⟨_, rfl⟩
  rw [hlen, hln] at hc'
  rw [hln] at hc
  rw [hlen, hln]
  have HN := Lib.hid hln
  have HN2 := Lib.hid (hlen.trans hln)
  clear hs ha hb hlen hln
  go_enter Tryz.func14, Tryz.ntmps14
  go_wp2_with fail
  go_loopw [4, 5, 13] (fun _ _ i wr => ∃ k : Nat, k ≤ n ∧ i = .int .i64 k ∧ Below w.heap.size w wr) (fun _ _ i _ => n - (intOf i).toNat)
  case atStart => exact ⟨0, Nat.zero_le _, rfl, Below.refl _ _⟩
  case round =>
    obtain ⟨k, hk, rfl, hbel⟩ := hrel
    have HBL := Lib.hid hbel
    by_cases hlt : k < n
    · have hka : k < a.length := by rw [HN.out]; exact hlt
      have hkb : k < b.length := by rw [HN2.out]; exact hlt
      obtain ⟨b1, o1, ca, A1, m1, c1, row1, n1, hv1, -, -, hb1, he1, hg1, x1, y1⟩ := (HA.out.later hbel).at_ (i := k) hka
      obtain ⟨b2, o2, cb, A2, m2, c2, row2, n2, hv2, -, -, hb2, he2, hg2, x2, y2⟩ := (HB.out.later hbel).at_ (i := k) hkb
      injection hv1 with e1 e0 e2
      subst e1
      subst e2
      injection hv2 with e1 e3 e2
      subst e1
      subst e2
      obtain ⟨hz, hnn⟩ := HS.out.2 k hka hkb
      rw [← dat_eq hka, ← dat_eq hkb, he1, he2] at hz hnn
      simp only at hz hnn
      have hr1 : RI wr F1' (.slice A1 m1 c1) row1 := hg1.row
      have hr2 : RI wr F2' (.slice A2 m2 c2) row2 := hg2.row
      have hml : m1 = m2 := by
        obtain ⟨_, _, _, _, e, _⟩ := hr1.shape
        obtain ⟨_, _, _, _, e', _⟩ := hr2.shape
        injection e with _ e _
        injection e' with _ e' _
        rw [e, e']
        exact cmpL_len _ _ hz
      subst hml
      subst hnn
      have HCALL := Lib.hid (fun W (hW : Below wr.heap.size wr W) => compareRowsR_any F1' F2' _ _ row1 row2 W (hr1.later hW) (hr2.later hW))
      rw [hz] at HCALL
      clear e0 e3 he1 he2 hg1 hg2 hr1 hr2 hbel hz
      go_wp2_with fail
      have q1 := fun w' (h : Tab.Ext (fun _ => False) wr.drew w') => (h.cell (p := ⟨b1, o1 + k * 2, none⟩) hb1 id).trans x1
      have q2 := fun w' (h : Tab.Ext (fun _ => False) wr.drew w') => (h.cell (p := ⟨b2, o2 + k * 2, none⟩) hb2 id).trans x2
      have q3 := fun w' (h : Tab.Ext (fun _ => False) wr.drew w') => (h.cell (p := ⟨b1, o1 + k * 2 + 1, none⟩) hb1 id).trans y1
      have q4 := fun w' (h : Tab.Ext (fun _ => False) wr.drew w') => (h.cell (p := ⟨b2, o2 + k * 2 + 1, none⟩) hb2 id).trans y2
      have hbw := Lib.hid (fun w' (h : Tab.Ext (fun _ => False) wr.drew w') => (show Below wr.heap.size wr w' from (Below.refl _ _).drew.trans h.below))
      clear x1 x2 y1 y2
      refine Tab.wp_region_tab (Tab.Ext fun _ => False) (by kernel_rfl) (by kernel_rfl) (fun _ => Tab.Ext.refl _ _) (fun _ _ _ h k => h.trans k) ?_
      iterate 37 (first | (refine Tab.tab_moveE _ rfl (Tab.silent_true _) (.inl rfl) rfl rfl (fun _ => Tab.Ext.refl _ _) ?_; apply Exists.intro; refine And.intro ?_ ?_; focus (simp [Tab.Env.ev, Tab.Env.get]; rfl)) | (refine Tab.tab_moveE _ rfl (Tab.silent_true _) (.inr rfl) rfl rfl (fun _ => Tab.Ext.refl _ _) ?_; apply Exists.intro; refine And.intro ?_ ?_; focus (simp [Tab.Env.ev, Tab.Env.get]; rfl)) | refine Tab.tab_skip rfl (Tab.silent_true _) rfl ?_ | (refine Tab.tab_repE rfl (Tab.silent_true _) rfl (fun _ _ h => by cases h) rfl (fun _ => Tab.Ext.refl _ _) ?_; apply Exists.intro; refine And.intro (fun l w' _ _ hw => ?_) ?_; focus (go_simp; rfl)) | (refine Tab.tab_repE rfl (Tab.silent_true _) rfl (fun _ _ h => by cases h) rfl (fun _ => Tab.Ext.refl _ _) ?_; apply Exists.intro; refine And.intro (fun l w' hs hc hw => ?_) ?_; focus (go_simp; rfl)))
      refine Tab.tab_call_is (.int .i64 0) rfl rfl rfl cfCompareRowsR rfl (fun l_ w' _ _ _ hw => ?_) ?_
      · show Calls _ _ #[.slice A1 m1 c1, .slice A2 m1 c2] w' _
        refine (HCALL.out w' (hbw.out _ hw)).mono ?_
        rintro e_ w_ ⟨rfl, hb_⟩
        exact ⟨rfl, Tab.Ext.of_below hb_, trivial⟩
      iterate 2 (first | (refine Tab.tab_moveE _ rfl (Tab.silent_true _) (.inl rfl) rfl rfl (fun _ => Tab.Ext.refl _ _) ?_; apply Exists.intro; refine And.intro ?_ ?_; focus (simp [Tab.Env.ev, Tab.Env.get]; rfl)) | (refine Tab.tab_moveE _ rfl (Tab.silent_true _) (.inr rfl) rfl rfl (fun _ => Tab.Ext.refl _ _) ?_; apply Exists.intro; refine And.intro ?_ ?_; focus (simp [Tab.Env.ev, Tab.Env.get]; rfl)) | refine Tab.tab_skip rfl (Tab.silent_true _) rfl ?_ | (refine Tab.tab_repE rfl (Tab.silent_true _) rfl (fun _ _ h => by cases h) rfl (fun _ => Tab.Ext.refl _ _) ?_; apply Exists.intro; refine And.intro (fun l w' _ _ hw => ?_) ?_; focus (go_simp; rfl)) | (refine Tab.tab_repE rfl (Tab.silent_true _) rfl (fun _ _ h => by cases h) rfl (fun _ => Tab.Ext.refl _ _) ?_; apply Exists.intro; refine And.intro (fun l w' hs hc hw => ?_) ?_; focus (go_simp; rfl)))
      intro a_ w_ hw_ hsat_
      refine Tab.fin_of_sat rfl ?_ hsat_
      simp only [Tab.fin, Act.put, List.setIfInBounds_toArray, List.set_cons_succ, List.set_cons_zero]
      have HB2 := Lib.hid (HBL.out.trans ((hbw.out _ hw_).mono HBL.out.size))
      clear hsat_ hw_ q1 q2 q3 q4 hbw HCALL
      go_wp2_with fail
      go_roundw
      case rel => exact ⟨k + 1, hlt, by go_num, HB2.out⟩
      case measure => simp [intOf] <;> omega
    · obtain rfl : k = n := by omega
      go_wp2_with fail
      go_ret
      exact ⟨rfl, HBL.out⟩
end Go.Proofs.YthejmnmkbldacaaGreatDoor

namespace Go.Proofs.YthejmnmkbldacaaGreatDoor
open Go.RowKit
attribute [local go_sem] Tab.Env.ev Tab.Env.get

set_option maxHeartbeats 1000000 in
theorem growD_any (n : Nat) (hn : n < 1073741824) (w : World) :
    Calls Tryz.prog 116 #[.slice none 0 0, .int .i64 n] w fun e w' => ∃ v', e = .returned v' ∧ w'.ownsRow w.heap.size 86 2 v' 0 [] ∧ Below w.heap.size w w' := by
  obtain ⟨i0, hi, hz0, hz1, hz2⟩ := info_parts infoD
  have h1 : ¬ ((n : Int) < 0) := by omega
  rcases Nat.eq_zero_or_pos n with h0 | h0
  · subst h0
    go_enter Tryz.func116, Tryz.ntmps116
    go_wp2_with fail
    go_ret
    exact ⟨_, rfl, World.ownsRow_nil _ _ _ _, Below.refl _ _⟩
  · have hrz : ∀ ty, (Builtin.append_ #[23, 3] ty #[.slice none 0 0, .int .i64 (n : Int)]).run Tryz.prog w =
        .ok (.slice (some ⟨w.heap.size, 0, none⟩) n (grownCap w n 0 86)) (w.drew.alloc (.cells (#[] ++ Builtin.zeroCells (Value.agg #[.slice none 0 0, .int .i64 0]).cells n ++ Builtin.zeroCells (Value.agg #[.slice none 0 0, .int .i64 0]).cells (grownCap w n 0 86 - n)) 86)) := fun ty => by
      have h := Lib.run_append_grow_zeros w 23 3 ty 86 i0 (.agg #[.slice none 0 0, .int .i64 0]) .i64 .i64 underD (by kernel_rfl) hi hz0 none 0 0 [] (run_firstCells_none (P := Tryz.prog) w.drew i0.size 0 0 0) n (by omega) (by rw [hz1]; decide) (by omega) (by omega)
        (by rw [hz2]; omega)
        (growslice_fits (by omega) (by rw [hz2]; omega))
      simpa using h
    have hge := grownCap_ge w n 0 86
    have hcm := grownCap_le_maxLen w n 0 86 (by unfold maxLen; omega)
    generalize grownCap w n 0 86 = G at *
    have hown : (w.drew.alloc (.cells (#[] ++ Builtin.zeroCells (Value.agg #[.slice none 0 0, .int .i64 0]).cells n ++ Builtin.zeroCells (Value.agg #[.slice none 0 0, .int .i64 0]).cells (G - n)) 86)).ownsRow w.heap.size 86 2 (.slice (some ⟨w.heap.size, 0, none⟩) 0 G) 0 [] := by
      refine ⟨rfl, .inr ⟨w.heap.size, G, _, rfl, Nat.le_refl _, heap_alloc_new w.drew _, Nat.zero_le _, hcm, ?_, rfl⟩⟩
      simp only [Array.size_append, size_zeroCells]
      simp [Value.cells]
      omega
    have HOWN := Lib.hid hown
    have hG : G ≤ 9223372036854775807 := hcm
    have hbel : Below w.heap.size w (w.drew.alloc (.cells (#[] ++ Builtin.zeroCells (Value.agg #[.slice none 0 0, .int .i64 0]).cells n ++ Builtin.zeroCells (Value.agg #[.slice none 0 0, .int .i64 0]).cells (G - n)) 86)) := (Below.refl _ _).drew.alloc (Nat.le_refl _) _
    generalize w.drew.alloc (.cells (#[] ++ Builtin.zeroCells (Value.agg #[.slice none 0 0, .int .i64 0]).cells n ++ Builtin.zeroCells (Value.agg #[.slice none 0 0, .int .i64 0]).cells (G - n)) 86) = W at *
    clear hown hcm
    go_enter Tryz.func116, Tryz.ntmps116
    go_wp2_with (at_builtin; refine Lib.wpList_append_run _ rfl _ _ _ _ rfl _ _ rfl rfl _ _ (hrz _) ?_)
    go_ret
    exact ⟨_, rfl, HOWN.out, hbel⟩

set_option maxHeartbeats 2000000 in
theorem concatD_any (F1 F2 : Nat → Prop) (v1 v2 : Value) (l1 l2 : List Value) (n1 n2 : Nat) (g : Nat) (w : World) (hb : Blk w g 23 [v1, v2]) (h1 : SL w F1 2 v1 n1 l1) (h2 : SL w F2 2 v2 n2 l2) (o1 : ∀ u ∈ l1, u.oneCell' = true) (o2 : ∀ u ∈ l2, u.oneCell' = true) (hn : n1 + n2 < 1073741824) :
    Calls Tryz.prog 53 #[.slice (some ⟨g, 0, none⟩) 2 2] w fun e w' => ∃ v', e = .returned v' ∧ w'.ownsRow w.heap.size 86 2 v' (n1 + n2) (l1 ++ l2) ∧ Below w.heap.size w w' := by
  have HS1 := Lib.hid h1
  have HS2 := Lib.hid h2
  have HO1 := Lib.hid o1
  have HO2 := Lib.hid o2
  obtain ⟨-, A1, c1, rfl, g1, g2, -⟩ := h1
  obtain ⟨-, A2, c2, rfl, g3, g4, -⟩ := h2
  have q := wcell2 hb
  have hgl := hb.lt
  have HB := Lib.hid hb
  clear hb o1 o2
  go_enter Tryz.func53, Tryz.ntmps53
  go_wp2_with fail
  refine wp_loop_rounds 3 ?_
  rw [rounds_succ]
  go_wp2_with fail
  rw [rounds_succ]
  go_wp2_with fail
  rw [rounds_succ]
  go_wp2_with fail
  rw [show (n1 : Int) + n2 = ((n1 + n2 : Nat) : Int) by omega]
  refine (growD_any (n1 + n2) hn w).mono ?_
  rintro e w1 ⟨v0, rfl, hown0, hb1⟩
  have HOWN0 := Lib.hid hown0
  have q1 := wcell2 (HB.out.below hb1 hgl)
  have hgl1 : g < w1.heap.size := by have := hb1.size; omega
  have hz1 : w.heap.size ≤ w1.heap.size := hb1.size
  have HB1 := Lib.hid hb1
  clear hown0 hb1 q
  go_wp2_with fail
  refine wp_loop_rounds 3 ?_
  rw [rounds_succ]
  go_wp2_with (at_builtin; refine append_sl w1 rfl (.tmp 31) (.tmp 32) 23 rfl w.heap.size 86 underD infoD rfl (by decide) _ 0 [] l1 rfl HOWN0.out F1 _ n1 rfl (HS1.out.later HB1.out) HO1.out (by omega) (by decide) hz1 ?_)
  intro v1' w2 hown1 hb2
  have HOWN1 := Lib.hid hown1
  have q2 := wcell2 ((HB.out.below HB1.out hgl).below hb2 hgl)
  have hgl2 : g < w2.heap.size := by have := hb2.size; omega
  have hz2 : w.heap.size ≤ w2.heap.size := by have := hb2.size; omega
  have HB2 := Lib.hid (HB1.out.trans hb2)
  clear hown1 hb2 q1
  go_wp2_with fail
  rw [rounds_succ]
  go_wp2_with (at_builtin; refine append_sl w2 rfl (.tmp 31) (.tmp 32) 23 rfl w.heap.size 86 underD infoD rfl (by decide) _ _ _ l2 rfl HOWN1.out F2 _ n2 rfl (HS2.out.later HB2.out) HO2.out (by omega) (by decide) hz2 ?_)
  intro v2' w3 hown2 hb3
  have HOWN2 := Lib.hid hown2
  have q3 := wcell2 ((HB.out.below HB2.out hgl).below hb3 hgl)
  have hgl3 : g < w3.heap.size := by have := hb3.size; omega
  have HB3 := Lib.hid (HB2.out.trans hb3)
  clear hown2 hb3 q2
  go_wp2_with fail
  rw [rounds_succ]
  go_wp2_with fail
  go_ret
  refine ⟨_, rfl, ?_, HB3.out⟩
  have := HOWN2.out
  simpa using this
end Go.Proofs.YthejmnmkbldacaaGreatDoor

namespace Go.Proofs.YthejmnmkbldacaaGreatDoor
open Go.RowKit
attribute [local go_sem] Tab.Env.ev Tab.Env.get

/-- no row in it is long -/
def SmD (l : List DE) : Prop := ∀ d, d ∈ l → d.row.length < 1073741824 ∧ ∀ x, x ∈ d.row → smV x
theorem absN_ranged {l : List DE} (h : rangedB l = true) : absN DE.n l ≤ l.length * 1099511627776 := by
  induction l with
  | nil => simp [absN]
  | cons d l ih =>
    have h1 := List.all_eq_true.1 h
    have h2 := h1 d (by simp)
    have h3 := ih (List.all_eq_true.2 fun x hx => h1 x (List.mem_cons_of_mem _ hx))
    unfold timesB at h2
    simp at h2
    simp only [absN, List.length_cons]
    omega
/-- what summed answers -/
def SummedPost (l : List DE) (w : World) (e : Ending) (w' : World) : Prop :=
  Below w.heap.size w w' ∧ ((e = .returned (.tuple #[.slice none 0 0, .int .i64 3]) ∧ (rangedB l = false ∨ ∃ out, Canon cmpD DE.n setN l out ∧ rangedB out = false)) ∨
    ∃ v' out l', e = .returned (.tuple #[v', .int .i64 0]) ∧ rangedB l = true ∧ Canon cmpD DE.n setN l out ∧ rangedB out = true ∧ SameD out l' ∧ RD w' (fun b => w.heap.size ≤ b) (fun b => w.heap.size ≤ b) v' l')
theorem Canon.sm {l out : List DE} (h : Canon cmpD DE.n setN l out) (hs : SmD l) : SmD out := fun d hd => by
  obtain ⟨e, he, h1⟩ := h.mem d hd
  have := hs e he
  rw [h1]
  exact this

set_option maxHeartbeats 1000000 in
theorem summed_any (F F' : Nat → Prop) (v : Value) (l : List DE) (w : World) (h : RD w F F' v l) (hn : l.length < 4194304) (hsm : SmD l) :
    Calls Tryz.prog 50 #[v] w (SummedPost l w) := by
  have HR := Lib.hid (ranged_any F F' v l w h (by omega))
  have HRD := Lib.hid h
  have HSM := Lib.hid hsm
  clear h hsm
  cases hr : rangedB l with
  | false =>
    rw [hr] at HR
    have HRB := Lib.hid hr
    clear hr
    go_enter Tryz.func50, Tryz.ntmps50
    go_wp2_with fail
    refine HR.out.mono ?_
    rintro e w1 ⟨rfl, hb⟩
    go_wp2_with fail
    go_ret2
    exact ⟨hb, .inl ⟨rfl, .inl HRB.out⟩⟩
  | true =>
    rw [hr] at HR
    have habs : absN DE.n l ≤ 4611686018427387904 := by
      have := absN_ranged hr
      omega
    have HRB := Lib.hid hr
    have HCN := Lib.hid (fun w1 (hb : Below w.heap.size w w1) => canonical_any F F' v l w1 (HRD.out.later hb) (by omega) habs)
    clear hr habs
    go_enter Tryz.func50, Tryz.ntmps50
    go_wp2_with fail
    refine HR.out.mono ?_
    rintro e w1 ⟨rfl, hb⟩
    go_wp2_with fail
    refine (HCN.out w1 hb).mono ?_
    rintro e w2 ⟨v2, out, rfl, o1, o2, o3⟩
    have hb2 := hb.trans (o3.mono hb.size)
    have O1 := Lib.hid o1
    have O2 := Lib.hid o2
    have holen : out.length < 4194304 := by have := o2.len; omega
    have HR2 := Lib.hid (ranged_any _ _ v2 out w2 o1.rd (by omega))
    clear o1 o2 o3 HCN hb
    go_wp2_with fail
    refine HR2.out.mono ?_
    rintro e w3 ⟨rfl, hb3⟩
    have hb4 := hb2.trans (hb3.mono hb2.size)
    cases hr2 : rangedB out with
    | false =>
      have HRB2 := Lib.hid hr2
      clear hr2 hb2 hb3
      go_wp2_with fail
      go_ret2
      exact ⟨hb4, .inl ⟨rfl, .inr ⟨out, O2.out, HRB2.out⟩⟩⟩
    | true =>
      have HRB2 := Lib.hid hr2
      have HCP := Lib.hid (copyDeltas_any _ _ v2 out w3 (O1.out.rd.later hb3) (by omega) (O2.out.sm HSM.out))
      clear hr2 hb2 hb3 HR HR2
      go_wp2_with fail
      refine HCP.out.mono ?_
      rintro e w5 ⟨v5, l5, rfl, p1, p2, p3⟩
      have P := Lib.hid (And.intro (hb4.trans (p3.mono hb4.size)) (And.intro p2 (p1.mono (F2 := fun b => w.heap.size ≤ b) (F2' := fun b => w.heap.size ≤ b) (fun b hb _ => Nat.le_trans hb4.size hb) (fun b hb _ => Nat.le_trans hb4.size hb))))
      clear p1 p2 p3 HCP
      go_wp2_with fail
      go_ret2
      exact ⟨P.out.1, .inr ⟨v5, out, l5, rfl, HRB.out, O2.out, HRB2.out, P.out.2.1, P.out.2.2⟩⟩
end Go.Proofs.YthejmnmkbldacaaGreatDoor

namespace Go.Proofs.YthejmnmkbldacaaGreatDoor
open Go.RowKit
attribute [local go_sem] Tab.Env.ev Tab.Env.get

/-- what Sum answers -/
def SumPost (l : List DE) (w : World) (e : Ending) (w' : World) : Prop :=
  (Below w.heap.size w w' ∧ e = .returned (.tuple #[.slice none 0 0, .int .i64 1]) ∧ allSound l = false) ∨ (allSound l = true ∧ SummedPost l w e w')
theorem SummedPost.from_ {l : List DE} {w w1 w' : World} {e : Ending} (h : SummedPost l w1 e w') (hb : Below w.heap.size w w1) : SummedPost l w e w' := by
  refine ⟨hb.trans (h.1.mono hb.size), ?_⟩
  rcases h.2 with h | ⟨v', out, l', h1, h2, h3, h4, h5, h6⟩
  · exact .inl h
  · exact .inr ⟨v', out, l', h1, h2, h3, h4, h5, h6.mono (fun b hb' _ => Nat.le_trans hb.size hb') (fun b hb' _ => Nat.le_trans hb.size hb')⟩
/-- two lists one behind the other -/
theorem RD.append {w : World} {base : Nat} {F1 F2 : Nat → Prop} {v : Value} {a b : List DE} (h : w.ownsRow base 86 2 v (a.length + b.length) (dcells a ++ dcells b)) (h1 : ∀ d, d ∈ a → d.good w F1) (h2 : ∀ d, d ∈ b → d.good w F2) : RD w (fun b => base ≤ b) (fun b => F1 b ∨ F2 b) v (a ++ b) := by
  refine ⟨by rw [dcells_append, List.length_append]; exact SL.of_own h, fun d hd => ?_⟩
  rcases List.mem_append.1 hd with hd | hd
  · exact ⟨(h1 d hd).row.mono fun b hb _ => .inl hb, (h1 d hd).n⟩
  · exact ⟨(h2 d hd).row.mono fun b hb _ => .inr hb, (h2 d hd).n⟩
theorem SmD.append {a b : List DE} (h1 : SmD a) (h2 : SmD b) : SmD (a ++ b) := fun d hd => (List.mem_append.1 hd).elim (h1 d) (h2 d)

set_option maxHeartbeats 1000000 in
theorem sum_any (F1 F1' F2 F2' : Nat → Prop) (va vb : Value) (a b : List DE) (w : World) (ha : RD w F1 F1' va a) (hb : RD w F2 F2' vb b) (hn : a.length + b.length < 4194304) (hsa : SmD a) (hsb : SmD b) (hT : Tabs w) :
    Calls Tryz.prog 28 #[va, vb] w (SumPost (a ++ b) w) := by
  obtain ⟨A1, c1, e1, -, -⟩ := rd_shape ha
  obtain ⟨A2, c2, e2, -, -⟩ := rd_shape hb
  have hbl := below_new w (.cells #[va, vb] 23)
  have HB := Lib.hid hbl
  have HCC := Lib.hid (concatD_any F1 F2 va vb (dcells a) (dcells b) a.length b.length w.heap.size (w.alloc (.cells #[va, vb] 23)) (Blk.new w _ _) (ha.sl.later hbl) (hb.sl.later hbl) (dcells_one ha.good) (dcells_one hb.good) (by omega))
  have HA := Lib.hid ha
  have HBB := Lib.hid hb
  have HS := Lib.hid (hsa.append hsb)
  have HT := Lib.hid hT
  rw [e1, e2] at HCC HB ⊢
  clear ha hb hsa hsb hT hbl e1 e2
  go_enter Tryz.func28, Tryz.ntmps28
  go_wp2_with fail
  refine HCC.out.mono ?_
  rintro e w1 ⟨v, rfl, hown, hb1⟩
  have hz : w.heap.size ≤ (w.alloc (.cells #[Value.slice A1 a.length c1, .slice A2 b.length c2] 23)).heap.size := HB.out.size
  have hbel := HB.out.trans (hb1.mono hz)
  have HRD := Lib.hid (RD.append hown (fun d hd => ⟨(HA.out.good d hd).row.later hbel, (HA.out.good d hd).n⟩) (fun d hd => ⟨(HBB.out.good d hd).row.later hbel, (HBB.out.good d hd).n⟩))
  have HSND := Lib.hid (soundS_any _ _ v (a ++ b) w1 HRD.out (by rw [List.length_append]; omega) (HT.out.later hbel))
  clear hown hb1 HCC
  go_wp2_with fail
  refine HSND.out.mono ?_
  rintro e w2 ⟨rfl, hb2⟩
  have hbel2 := hbel.trans (hb2.mono hbel.size)
  cases hs : allSound (a ++ b) with
  | false =>
    have HS0 := Lib.hid hs
    clear hs
    go_wp2_with fail
    go_ret2
    exact .inl ⟨hbel2, rfl, HS0.out⟩
  | true =>
    have HS0 := Lib.hid hs
    have HSM := Lib.hid (summed_any _ _ v (a ++ b) w2 (HRD.out.later hb2) (by rw [List.length_append]; omega) HS.out)
    clear hs hb2 HSND
    go_wp2_with fail
    refine HSM.out.mono ?_
    rintro e w3 hp
    have HP := Lib.hid (hp.from_ hbel2)
    rcases hp.2 with ⟨rfl, _⟩ | ⟨v', out, l', rfl, _⟩
    · clear hp
      go_wp2_with fail
      go_ret2
      exact .inr ⟨HS0.out, HP.out⟩
    · clear hp
      go_wp2_with fail
      go_ret2
      exact .inr ⟨HS0.out, HP.out⟩
end Go.Proofs.YthejmnmkbldacaaGreatDoor
